/- Plan of scrap (layer 11): one pipe after the other carries as little as it can. -/
import Derived.Test.YtoehifincdflhaaLi11
import Derived.Test.YtoehifincdflhaaSco
import Derived.Test.YtoehifincdflhaaM11
import Derived.Test.YtoehifincdflhaaSt11
import Derived.Test.YtoehifincdflhaaEv11
import Derived.Test.YtoehifincdflhaaCp11
import Derived.Test.YtoehifincdflhaaG11
import Derived.Test.YtoehifincdflhaaMo11
namespace Go.Proofs.Ytoehifincdflhaa
open Go.RowKit
open Go.Sort (grow)
set_option linter.unusedVariables false

attribute [local go_sem] Oper.semAt_some
section
variable (np nl : Nat) (pl : List Sp) (ls : List Ln) (s0 : Nat)
/-- the net behind the first k pipes, and what pipe k carries -/
def plN : Nat → List Pp
  | 0 => flowL np nl pl ls s0.testBit
  | k + 1 => withPp (plN k) k (endsP (2 * nl + np + 1) (plN k) k).lo (endsP (2 * nl + np + 1) (plN k) k).lo
def plX (k : Nat) : Int := (endsP (2 * nl + np + 1) (plN np nl pl ls s0 k) k).lo
def plW (m : Nat) : List Int := (List.range m).map fun i => plX np nl pl ls s0 (2 * i)
def plS (m : Nat) : List Int := (List.range m).map fun i => plX np nl pl ls s0 (2 * i + 1)
end
section
variable {np nl : Nat} {pl : List Sp} {ls : List Ln} {s0 : Nat}
theorem plW_succ (m : Nat) : plW np nl pl ls s0 (m + 1) = plW np nl pl ls s0 m ++ [plX np nl pl ls s0 (2 * m)] := by simp [plW, List.range_succ]
theorem plS_succ (m : Nat) : plS np nl pl ls s0 (m + 1) = plS np nl pl ls s0 m ++ [plX np nl pl ls s0 (2 * m + 1)] := by simp [plS, List.range_succ]
theorem plW_len (m : Nat) : (plW np nl pl ls s0 m).length = m := by simp [plW]
theorem plS_len (m : Nat) : (plS np nl pl ls s0 m).length = m := by simp [plS]
theorem plN_len (k : Nat) : (plN np nl pl ls s0 k).length = 2 * nl + np + 1 := by
  induction k with
  | zero => exact flow_len ..
  | succ k ih => rw [plN, withPp_length, ih]
/-- what holds of the nets on the way -/
structure PlOk (np nl : Nat) (pl : List Sp) (ls : List Ln) (s0 k : Nat) : Prop where
  nodes : NodesOk (plN np nl pl ls s0 k)
  lohi : LoHi (plN np nl pl ls s0 k)
  can : Can (plN np nl pl ls s0 k)
  at_ : ∀ j, ppAt (plN np nl pl ls s0 k) j = if j < k then ⟨(ppAt (flowL np nl pl ls s0.testBit) j).fr, (ppAt (flowL np nl pl ls s0.testBit) j).to, plX np nl pl ls s0 j, plX np nl pl ls s0 j⟩ else ppAt (flowL np nl pl ls s0.testBit) j
  inn : ∀ j, j < k → (ppAt (flowL np nl pl ls s0.testBit) j).lo ≤ plX np nl pl ls s0 j ∧ plX np nl pl ls s0 j ≤ (ppAt (flowL np nl pl ls s0.testBit) j).hi
theorem pl_ok (hok : OkBk np nl pl ls) (hc : Can (flowL np nl pl ls s0.testBit)) (k : Nat) (hk : k ≤ 2 * nl) : PlOk np nl pl ls s0 k := by
  induction k with
  | zero => exact ⟨flow_nodes hok, fun p hp => (flow_ok hok p hp).2, hc, fun j => by rw [if_neg (by omega)]; rfl, fun j hj => absurd hj (by omega)⟩
  | succ k ih =>
    have h := ih (by omega)
    have hlen := plN_len (np := np) (nl := nl) (pl := pl) (ls := ls) (s0 := s0) k
    have hi : k < (plN np nl pl ls s0 k).length := by omega
    have hL := endsP_low hi h.nodes h.lohi h.can
    rw [hlen] at hL
    have hx : IsLow (plN np nl pl ls s0 k) k (plX np nl pl ls s0 k) := hL
    have hat := h.at_ k
    rw [if_neg (by omega)] at hat
    have h1 := hx.lo
    have h2 := hx.hi
    rw [hat] at h1 h2
    refine ⟨withPp_nodes hi h.nodes, withPp_lohi h.lohi (Int.le_refl _), low_fix hi h.lohi h.can hx (Int.le_refl _), fun j => ?_, fun j hj => ?_⟩
    · rw [plN, withPp_at _ _ _ _ _ hi]
      by_cases e : j = k
      · subst e
        rw [if_pos rfl, if_pos (by omega), hat]
        rfl
      · rw [if_neg e, h.at_ j]
        by_cases e2 : j < k
        · rw [if_pos e2, if_pos (by omega)]
        · rw [if_neg e2, if_neg (by omega)]
    · by_cases e : j = k
      · subst e; exact ⟨h1, h2⟩
      · exact h.inn j (by omega)
theorem pl_bd (hok : OkBk np nl pl ls) {k : Nat} (h : PlOk np nl pl ls s0 k) (hk : k < 2 * nl) :
    -20000 ≤ (ppAt (plN np nl pl ls s0 k) k).lo ∧ (ppAt (plN np nl pl ls s0 k) k).lo ≤ (ppAt (plN np nl pl ls s0 k) k).hi ∧ (ppAt (plN np nl pl ls s0 k) k).hi ≤ 20000 := by
  rw [h.at_ k, if_neg (by omega)]
  obtain ⟨i, hi⟩ : ∃ i, k = 2 * i ∨ k = 2 * i + 1 := ⟨k / 2, by omega⟩
  have y := hok.ln i
  rcases hi with rfl | rfl
  · rw [pp_w (by omega)]
    simp only [wPp]
    cases s0.testBit i <;> simp <;> omega
  · rw [pp_s (by omega)]
    simp only [sPp]
    omega
theorem pl_okPp (hok : OkBk np nl pl ls) {k : Nat} (h : PlOk np nl pl ls s0 k) (j : Nat) : okPp (ppAt (plN np nl pl ls s0 k) j) := by
  have h1 := (flow_at (ws := s0.testBit) hok j).1
  rw [h.at_ j]
  by_cases e : j < k
  · rw [if_pos e]
    have h2 := h.inn j e
    unfold okPp at h1 ⊢
    simp only
    omega
  · rw [if_neg e]; exact h1
end
section
variable {P : Program} (w : World)
/-- append onto a row of the call's own, within a fence; the source a slice that reads as a list -/
theorem wpListIn_append_T {F : Fence} {n : Nat} {α : Type} {enc : α → List Value} {d : α} {ops : Array Oper} {rest : List Oper} {o : Oper} {a : Act} {Q : Exit → Act → World → Prop} (hgd : o.guard = none) (s x : Operand) (t : TypeId)
    (ho : o.op = .call { callee := .builtin .append, args := #[s, x], argTypes := #[t, t] })
    (base : Nat) (e : TypeId) (size bytes : Nat) (E : ElemT P t e size bytes) (hs : ∀ x, (enc x).length = size) (h1 : ∀ x, ∀ u ∈ enc x, u.oneCell' = true)
    (v : Value) (k : Nat) (xs : List α) (hv : a.eval s = v) (hown : w.ownsRow base e size v k (xs.flatMap enc))
    (A : Option Addr) (m c : Nat) (ys : List α) (hx : a.eval x = .slice A m c) (hr : SlAt enc size d w A m ys)
    (hsz : k + m ≤ 100000) (hbase : base ≤ w.heap.size)
    (h : ∀ v' w', w'.ownsRow base e size v' (k + m) ((xs ++ ys).flatMap enc) → w.grownBy w' v.ownBlock → (v'.ownBlock = v.ownBlock ∨ v'.ownBlock = some w.heap.size) → wpListIn F n P ops Q rest (a.put o.dst v') w') : wpListIn F n P ops Q (o :: rest) a w := by
  obtain ⟨i, z, g2, g3, g4, g5, g6⟩ := E.info
  have hb := E.small
  have hbytes : (k + m) * bytes ≤ 140737488355328 := by
    have : (k + m) * bytes ≤ 100000 * 1000 := Nat.mul_le_mul hsz hb
    omega
  refine wpListIn_plain hgd fun K hK' => ?_
  obtain ⟨v', w', hrun, r1, r2, r3⟩ := run_append_any (P := P) w base t o.type e i z size bytes E.ht g2 g3 g4 g5 g6 E.pos v k (xs.flatMap enc) hown w.heap.size A m c (ys.flatMap enc) (hr.reads hs E.pos) (oneCell_flat h1 ys) (by unfold maxLen; omega) hbytes hbase
  unfold Oper.wpIn
  refine ⟨?_, ?_⟩
  · simp [Oper.about, ho, resolve, Target.leads, Sem.run_pure]
  · rw [Oper.semAt_plain F _ _ (by rw [ho]; intro c hc'; cases hc')]
    simp [execOp, ho, resolve, invoke, builtin, hv, hx, hrun, Result.andThen]
    exact hK' _ _ (h v' w' (by rw [List.flatMap_append]; exact r1) r2 r3)
end
set_option maxHeartbeats 400000 in
theorem with_fresh (A : Option Addr) (n c i : Nat) (lo hi : Int) (pp : List Pp) (w : World) (hn : n ≤ 40) (hin : i < n) (HP : PpsAt w A n pp) :
    Calls Try.prog 53 #[.slice A n c, .int .i64 i, .agg #[.int .i64 lo, .int .i64 hi]] w
      fun e w' => ∃ g c', e = .returned (.slice (some ⟨g, 0, none⟩) n c') ∧ w.heap.size ≤ g ∧ g < w'.heap.size ∧ PpsAt w' (some ⟨g, 0, none⟩) n (withPp pp i lo hi) ∧ Below w.heap.size w w' := by
  have HR := Lib.hid HP
  have HOW := Lib.hid (own_empty (w := w.alloc (.cells #[.int .i64 lo, .int .i64 hi] 31)) (base := w.heap.size) (e := 95) (size := 4) (g := w.heap.size + 1) (by simp) (by simp))
  have hl := HP.1
  clear HP
  go_enter Try.func53, Try.ntmps53
  go_wp2_with (at_builtin; go_must (refine wpList_append_T _ rfl (.tmp 8) (.tmp 9) _ rfl w.heap.size _ 4 32 ppE encP_len encP_one _ (some (w.heap.size + 1)) 0 [] rfl rfl HOW.out A n c pp rfl (pps_iff.1 (HR.out.later (by (repeat first | with_reducible assumption | with_reducible exact Below.refl _ _ | refine below_drewN ?_ _ | refine Below.drew ?_ | refine Below.alloc ?_ (by first | omega | (with_reducible exact Below.size (by assumption)) | (simp; done) | (simp; omega)) _ | refine Below.setCell ?_ (by first | omega | (with_reducible exact Below.size (by assumption)) | (simp; done) | (simp; omega)) _ | refine below_step (by assumption) (by first | omega | (with_reducible exact Below.size (by assumption)) | (simp; done) | (simp; omega)) ?_)))) (by omega) (by simp; omega) ?_; intro v1 w1 hown1 hg1 hat; rw [Nat.zero_add, List.nil_append] at hown1; obtain ⟨g, cap, rfl, hbg, hgl⟩ := hown1.form (by omega); have HO1 := Lib.hid hown1; have hb1 : Below w.heap.size w w1 := (Below.grown (by (repeat first | with_reducible assumption | with_reducible exact Below.refl _ _ | refine below_drewN ?_ _ | refine Below.drew ?_ | refine Below.alloc ?_ (by first | omega | (with_reducible exact Below.size (by assumption)) | (simp; done) | (simp; omega)) _ | refine Below.setCell ?_ (by first | omega | (with_reducible exact Below.size (by assumption)) | (simp; done) | (simp; omega)) _ | refine below_step (by assumption) (by first | omega | (with_reducible exact Below.size (by assumption)) | (simp; done) | (simp; omega)) ?_)) hg1 (by simp; omega) (fun k hk => by cases hk; exact Nat.le_succ _)); have qb : ∀ i, w1.cell? ⟨w.heap.size, i, none⟩ = #[Value.int .i64 lo, .int .i64 hi][i]? := (fun i => (World.cell?_of_block (a := ⟨w.heap.size, i, none⟩) (hg1.block w.heap.size (by first | omega | (simp; done) | (simp; omega)) (by simp))).trans ((al2_0 rfl).2.1 i)); have k2 := (hown1.cellAt (i * 4 + 2) (by omega)).trans (flat_get (d := ⟨0, 0, 0, 0⟩) encP_len pp i 2 (by omega) (by omega)); have k3 := (hown1.cellAt (i * 4 + 3) (by omega)).trans (flat_get (d := ⟨0, 0, 0, 0⟩) encP_len pp i 3 (by omega) (by omega)); have fz := fun j => hown1.frozenAt j; clear hown1 hg1 hat; simp only [encP, List.getElem?_cons_succ, List.getElem?_cons_zero] at k2 k3))
  go_ret
  obtain ⟨A1, c1, e1, -, hs1⟩ := SlAt.of_own (d := ⟨0, 0, 0, 0⟩) encP_len HO1.out hl
  cases e1
  exact ⟨g, _, rfl, hbg, by simpa using hgl, pps_with (pps_iff.2 hs1) hin k2 k3, by (repeat first | with_reducible assumption | with_reducible exact Below.refl _ _ | refine below_drewN ?_ _ | refine Below.drew ?_ | refine Below.alloc ?_ (by first | omega | (with_reducible exact Below.size (by assumption)) | (simp; done) | (simp; omega)) _ | refine Below.setCell ?_ (by first | omega | (with_reducible exact Below.size (by assumption)) | (simp; done) | (simp; omega)) _ | refine below_step (by assumption) (by first | omega | (with_reducible exact Below.size (by assumption)) | (simp; done) | (simp; omega)) ?_)⟩
theorem RowsAt.grown {w w' : World} {size n g : Nat} {f : Nat → List Value} {row : Option Nat} (h : RowsAt w size (some ⟨g, 0, none⟩) n f) (hg : w.grownBy w' row) (hne : row ≠ some g) : RowsAt w' size (some ⟨g, 0, none⟩) n f := fun hn => by
  obtain ⟨b, off, e, hlt, hc⟩ := h hn
  obtain ⟨rfl, rfl⟩ : g = b ∧ 0 = off := by simpa using e
  exact ⟨g, 0, rfl, Nat.lt_of_lt_of_le hlt hg.size, fun k hk j u hu => (World.cell?_of_block (a := ⟨g, 0 + k * size + j, none⟩) (hg.block g hlt (fun e => hne e.symm))).trans (hc k hk j u hu)⟩
theorem RowsAt.far {w : World} {size n g : Nat} {f : Nat → List Value} (h : RowsAt w size (some ⟨g, 0, none⟩) n f) {p : Addr} (hp : g ≠ p.block) (v : Value) : RowsAt (w.setCell p v) size (some ⟨g, 0, none⟩) n f := fun hn => by
  obtain ⟨b, off, e, hlt, hc⟩ := h hn
  obtain ⟨rfl, rfl⟩ : g = b ∧ 0 = off := by simpa using e
  exact ⟨g, 0, rfl, by simpa using hlt, fun k hk j u hu => (World.cell?_setCell_other _ _ _ _ (fun e => hp (by have := congrArg Addr.block e; exact this.symm))).trans (hc k hk j u hu)⟩
/-- what holds at the head of each round -/
structure PlI (b B : Nat) (np nl : Nat) (pl : List Sp) (ls : List Ln) (s0 k : Nat) (A3 : Option Addr) (V1 V2 : Value) (wo W2 wr : World) (B2 : Nat) : Prop where
  hP : PpsAt wr A3 (2 * nl + np + 1) (plN np nl pl ls s0 k)
  blk : Blk wr b 41 #[V1, V2]
  o1 : wr.ownsRow B 3 1 V1 ((k + 1) / 2) ((plW np nl pl ls s0 ((k + 1) / 2)).flatMap encI)
  o2 : wr.ownsRow B 3 1 V2 (k / 2) ((plS np nl pl ls s0 (k / 2)).flatMap encI)
  ne : ∀ j, V1.ownBlock = some j → V2.ownBlock = some j → False
  bel : Below wo.heap.size wo wr
  kp : KeepsFrom B2 W2 wr
  sz : W2.heap.size ≤ wr.heap.size
section
variable {b B np nl : Nat} {pl : List Sp} {ls : List Ln} {s0 k : Nat} {A3 : Option Addr} {V1 V2 : Value} {wo W2 wr : World} {B2 : Nat}
/-- a round behind the two calls: a row of its own has grown, the account's cell holds it -/
theorem PlI.even {m : Nat} (h : PlI b B np nl pl ls s0 (2 * m) A3 V1 V2 wo W2 wr B2) (hb : b < B) (hB : B ≤ W2.heap.size) (hwo : wo.heap.size ≤ b) {w4 w5 : World} {g : Nat} {V' : Value} (hb4 : Below wr.heap.size wr w4) (hgl : wr.heap.size ≤ g) (hgw : g < w4.heap.size)
    (hP : PpsAt w4 (some ⟨g, 0, none⟩) (2 * nl + np + 1) (plN np nl pl ls s0 (2 * m + 1))) {cs : Array Value} {t : TypeId}
    (ho : w5.ownsRow B 3 1 V' (m + 1) ((plW np nl pl ls s0 m ++ [plX np nl pl ls s0 (2 * m)]).flatMap encI)) (hg : (w4.alloc (.cells cs t)).grownBy w5 V1.ownBlock) (hv : V'.ownBlock = V1.ownBlock ∨ V'.ownBlock = some (w4.alloc (.cells cs t)).heap.size) :
    PlI b B np nl pl ls s0 (2 * m + 1) (some ⟨g, 0, none⟩) V' V2 wo W2 (w5.setCell ⟨b, 0, none⟩ V') B2 := by
  have z4 := hb4.size
  have hsz := h.sz
  have l1 := fun j hj => h.o1.lt j hj
  have l2 := fun j hj => h.o2.lt j hj
  have hbW := h.bel.size
  have zg := hg.size
  simp only [World.size_alloc] at zg hv
  have O2 : w5.ownsRow B 3 1 V2 m ((plS np nl pl ls s0 m).flatMap encI) := by
    have h2 := h.o2
    rw [show 2 * m / 2 = m by omega] at h2
    exact ((own_below h2 hb4).alloc _).kept hg (by
      cases e : V2.ownBlock with
      | none => exact .inl rfl
      | some j => exact .inr fun e2 => h.ne j e2.symm e)
  have O1 := h.o1
  have BL : Blk w5 b 41 #[V1, V2] := ((h.blk.below hb4 h.blk.lt).alloc _).grown hg (fun e => by have := (l1 b e.symm).1; omega)
  refine ⟨⟨hP.1, ((hP.2.later ((Below.refl _ _).alloc (Nat.le_refl _) _)).grown hg (fun e => by have := (l1 g e).2; omega)).far (by simp; omega) _⟩, ?_, ?_, ?_, ?_, ?_, ?_, ?_⟩
  · have := BL.set_ 0 V'
    simpa using this
  · rw [show (2 * m + 1 + 1) / 2 = m + 1 by omega, plW_succ]
    exact own_set ho fun j hj e => by have := (ho.lt j hj).1; simp at e; omega
  · rw [show (2 * m + 1) / 2 = m by omega]
    exact own_set O2 fun j hj e => by have := (O2.lt j hj).1; simp at e; omega
  · intro j hj hj2
    have := (l2 j hj2).2
    rcases hv with e | e
    · exact h.ne j (e ▸ hj) hj2
    · rw [e] at hj; simp at hj; omega
  · have := ((h.bel.trans (hb4.mono hbW)).alloc (o := .cells cs t) (by omega))
    exact (Below.grown this hg (by simp; omega) (fun j hj => by have := (l1 j hj).1; omega)).setCell (by simpa using hwo) _
  · exact keeps_setCell (keeps_grown hg (own_cells ((own_below O1 hb4).alloc _)) (keeps_alloc (keeps_step hb4 (Nat.le_refl _) h.kp) _)) _ _
  · simp; omega
theorem PlI.odd {m : Nat} (h : PlI b B np nl pl ls s0 (2 * m + 1) A3 V1 V2 wo W2 wr B2) (hb : b < B) (hB : B ≤ W2.heap.size) (hwo : wo.heap.size ≤ b) {w4 w5 : World} {g : Nat} {V' : Value} (hb4 : Below wr.heap.size wr w4) (hgl : wr.heap.size ≤ g) (hgw : g < w4.heap.size)
    (hP : PpsAt w4 (some ⟨g, 0, none⟩) (2 * nl + np + 1) (plN np nl pl ls s0 (2 * m + 1 + 1))) {cs : Array Value} {t : TypeId}
    (ho : w5.ownsRow B 3 1 V' (m + 1) ((plS np nl pl ls s0 m ++ [plX np nl pl ls s0 (2 * m + 1)]).flatMap encI)) (hg : (w4.alloc (.cells cs t)).grownBy w5 V2.ownBlock) (hv : V'.ownBlock = V2.ownBlock ∨ V'.ownBlock = some (w4.alloc (.cells cs t)).heap.size) :
    PlI b B np nl pl ls s0 (2 * m + 1 + 1) (some ⟨g, 0, none⟩) V1 V' wo W2 (w5.setCell ⟨b, 1, none⟩ V') B2 := by
  have z4 := hb4.size
  have hsz := h.sz
  have l1 := fun j hj => h.o1.lt j hj
  have l2 := fun j hj => h.o2.lt j hj
  have hbW := h.bel.size
  have zg := hg.size
  simp only [World.size_alloc] at zg hv
  have O1 : w5.ownsRow B 3 1 V1 (m + 1) ((plW np nl pl ls s0 (m + 1)).flatMap encI) := by
    have h2 := h.o1
    rw [show (2 * m + 1 + 1) / 2 = m + 1 by omega] at h2
    exact ((own_below h2 hb4).alloc _).kept hg (by
      cases e : V1.ownBlock with
      | none => exact .inl rfl
      | some j => exact .inr fun e2 => h.ne j e e2.symm)
  have O2 := h.o2
  have BL : Blk w5 b 41 #[V1, V2] := ((h.blk.below hb4 h.blk.lt).alloc _).grown hg (fun e => by have := (l2 b e.symm).1; omega)
  refine ⟨⟨hP.1, ((hP.2.later ((Below.refl _ _).alloc (Nat.le_refl _) _)).grown hg (fun e => by have := (l2 g e).2; omega)).far (by simp; omega) _⟩, ?_, ?_, ?_, ?_, ?_, ?_, ?_⟩
  · have := BL.set_ 1 V'
    simpa using this
  · rw [show (2 * m + 1 + 1 + 1) / 2 = m + 1 by omega]
    exact own_set O1 fun j hj e => by have := (O1.lt j hj).1; simp at e; omega
  · rw [show (2 * m + 1 + 1) / 2 = m + 1 by omega, plS_succ]
    exact own_set ho fun j hj e => by have := (ho.lt j hj).1; simp at e; omega
  · intro j hj hj2
    have := (l1 j hj).2
    rcases hv with e | e
    · exact h.ne j hj (e ▸ hj2)
    · rw [e] at hj2; simp at hj2; omega
  · have := ((h.bel.trans (hb4.mono hbW)).alloc (o := .cells cs t) (by omega))
    exact (Below.grown this hg (by simp; omega) (fun j hj => by have := (l2 j hj).1; omega)).setCell (by simpa using hwo) _
  · exact keeps_setCell (keeps_grown hg (own_cells ((own_below O2 hb4).alloc _)) (keeps_alloc (keeps_step hb4 (Nat.le_refl _) h.kp) _)) _ _
  · simp; omega
end
theorem set_same {w : World} {a : Addr} {v : Value} (h : w.cell? a = some v) (q : Addr) : (w.setCell a v).cell? q = w.cell? q := by
  by_cases e : q = a
  · subst e; rw [h]; exact World.cell?_setCell_same _ _ _ h
  · exact World.cell?_setCell_other _ _ _ _ (Ne.symm e)
theorem IntsAt.of_same {w w' : World} {A : Option Addr} {n : Nat} {xs : List Int} (h : IntsAt w A n xs) (hs : w.heap.size ≤ w'.heap.size) (hc : ∀ q, w'.cell? q = w.cell? q) : IntsAt w' A n xs :=
  ⟨h.1, fun hn => by
    obtain ⟨b, off, e, hlt, hx⟩ := h.2 hn
    exact ⟨b, off, e, Nat.lt_of_lt_of_le hlt hs, fun k hk j u hu => (hc _).trans (hx k hk j u hu)⟩⟩
set_option maxRecDepth 100000 in
theorem run_low (x y : Int) (W : World) : (Instr.field 31 (.agg #[.int .i64 x, .int .i64 y]) 0).run Try.prog W = .ok (.int .i64 x) W := by
  go_simp
  rfl
/-- what Plan hands back -/
def PlanRet (np nl : Nat) (pl : List Sp) (ls : List Ln) (wrg : Int) (w : World) (e : Ending) (w' : World) : Prop :=
  Below w.heap.size w w' ∧ ((askZ np nl pl ls wrg true ≠ 0 ∧ e = .returned (.tuple #[.agg #[.slice none 0 0, .slice none 0 0], .int .i64 (askZ np nl pl ls wrg true)])) ∨
    (askZ np nl pl ls wrg true = 0 ∧ ∃ s0 A1 c1 A2 c2, (truthSets np nl pl ls wrg)[0]? = some s0 ∧ e = .returned (.tuple #[.agg #[.slice A1 nl c1, .slice A2 nl c2], .int .i64 0]) ∧
      IntsAt w' A1 nl (plW np nl pl ls s0 nl) ∧ IntsAt w' A2 nl (plS np nl pl ls s0 nl)))
set_option maxRecDepth 100000 in
set_option maxHeartbeats 3200000 in
theorem Plan_c (Ap Al : Option Addr) (np cp nl cl : Nat) (wrg : Int) (pl : List Sp) (ls : List Ln) (w : World) (hp : np ≤ 40) (hl : nl ≤ 40) (HP : SpsAt w Ap np pl) (HL : LnsAt w Al nl ls) :
    Calls Try.prog 35 #[.agg #[.slice Ap np cp, .slice Al nl cl, .int .i64 wrg]] w (PlanRet np nl pl ls wrg w) := by
  have HPI := Lib.hid HP
  have HLI := Lib.hid HL
  clear HP HL
  obtain ⟨z, hz⟩ : ∃ z, askZ np nl pl ls wrg true = z := ⟨_, rfl⟩
  have hzI := Lib.hid hz
  refine (callsIn_wide (n := 6)).1 (callsIn_of_wp_marks Try.func35 rfl trivial ?_ rfl)
  simp only [Try.ntmps35, List.size_toArray, List.length_cons, List.length_nil, Nat.reduceAdd, Nat.reduceSub, Array.replicate_succ, Array.replicate_zero, List.push_toArray, List.append_toArray, List.nil_append, List.cons_append]
  gi_wp2_with fail
  refine ⟨trivial, ?_⟩
  gi_at_call 47
  refine callsIn_wide.2 ((ask_c Ap Al np cp nl cl wrg true pl ls _ hp hl (HPI.out.later (by (repeat first | with_reducible assumption | with_reducible exact Below.refl _ _ | (with_reducible refine Below.alloc ?_ ?side _; case side => (first | omega | (with_reducible exact Below.size (by assumption)) | (simp; done) | (simp; omega))) | (with_reducible refine Below.setCell ?_ ?side _; case side => (first | omega | (with_reducible exact Below.size (by assumption)) | (simp; done) | (simp; omega))) | with_reducible refine Below.drew ?_ | with_reducible refine below_drewN ?_ _ | (with_reducible refine below_step (by assumption) ?side ?_; case side => (first | omega | (with_reducible exact Below.size (by assumption)) | (simp; done) | (simp; omega)))))) (HLI.out.later (by (repeat first | with_reducible assumption | with_reducible exact Below.refl _ _ | (with_reducible refine Below.alloc ?_ ?side _; case side => (first | omega | (with_reducible exact Below.size (by assumption)) | (simp; done) | (simp; omega))) | (with_reducible refine Below.setCell ?_ ?side _; case side => (first | omega | (with_reducible exact Below.size (by assumption)) | (simp; done) | (simp; omega))) | with_reducible refine Below.drew ?_ | with_reducible refine below_drewN ?_ _ | (with_reducible refine below_step (by assumption) ?side ?_; case side => (first | omega | (with_reducible exact Below.size (by assumption)) | (simp; done) | (simp; omega))))))).mono ?_)
  (rintro e w1 ⟨rfl, hb1⟩; obtain ⟨hc1, hf1⟩ := bcell hb1; have zs1 := hb1.size; (try simp at zs1); have n1_0 : w.heap.size < w1.heap.size := (by omega); have n1_1 : w.heap.size + 1 < w1.heap.size := (by omega))
  rw [hz]
  have d0 := fun i => (hc1 w.heap.size i (by first | omega | (simp; done) | (simp; omega))).trans ((al2_0 rfl).2.1 i)
  have d1 := fun i => (hc1 (w.heap.size + 1) i (by first | omega | (simp; done) | (simp; omega))).trans ((al2_1 rfl).2.1 i)
  have f1 := fun i => (hf1 (w.heap.size + 1) i (by first | omega | (simp; done) | (simp; omega))).trans ((al2_1 rfl).2.2 i)
  have hbw1 : Below w.heap.size w w1 := by (repeat first | with_reducible assumption | with_reducible exact Below.refl _ _ | (with_reducible refine Below.alloc ?_ ?side _; case side => (first | omega | (with_reducible exact Below.size (by assumption)) | (simp; done) | (simp; omega))) | (with_reducible refine Below.setCell ?_ ?side _; case side => (first | omega | (with_reducible exact Below.size (by assumption)) | (simp; done) | (simp; omega))) | with_reducible refine Below.drew ?_ | with_reducible refine below_drewN ?_ _ | (with_reducible refine below_step (by assumption) ?side ?_; case side => (first | omega | (with_reducible exact Below.size (by assumption)) | (simp; done) | (simp; omega))))
  have z1 := hbw1.size
  have HB0 : Hid (Blk w1 w.heap.size 25 #[.slice Ap np cp, .slice Al nl cl, .int .i64 wrg]) := ((Blk.new w 25 _).alloc _).below hb1 (by simp; omega)
  have HB1 : Hid (Blk w1 (w.heap.size + 1) 41 #[.slice none 0 0, .slice none 0 0]) := by
    have h := Blk.new (w.alloc (.cells #[.slice Ap np cp, .slice Al nl cl, .int .i64 wrg] 25)) 41 #[.slice none 0 0, .slice none 0 0]
    rw [World.size_alloc] at h
    exact h.below hb1 (by simp)
  clear hc1 hf1 hb1 hz
  cases h0 : (z == 0)
  · have hne : z ≠ 0 := by simpa using h0
    have hb : (z != 0) = true := by simpa using h0
    gi_wp2
    obtain ⟨k0, k1⟩ := two_cells (a := ⟨w.heap.size + 1, 0, none⟩) (b := ⟨w.heap.size + 1, 1, none⟩) (u := .slice none 0 0) (v := .slice none 0 0) (by simp) (d1 0) (d1 1)
    refine leave_marks (B := w.heap.size) (v := .tuple #[.agg #[.slice none 0 0, .slice none 0 0], .int .i64 z]) [] _ (.nil _) (by simp) (fun W' ht => ?_) (fun W' ht => ⟨ht.below (Nat.le_refl _) (by simp; omega) (by (repeat first | with_reducible assumption | with_reducible exact Below.refl _ _ | (with_reducible refine Below.alloc ?_ ?side _; case side => (first | omega | (with_reducible exact Below.size (by assumption)) | (simp; done) | (simp; omega))) | (with_reducible refine Below.setCell ?_ ?side _; case side => (first | omega | (with_reducible exact Below.size (by assumption)) | (simp; done) | (simp; omega))) | with_reducible refine Below.drew ?_ | with_reducible refine below_drewN ?_ _ | (with_reducible refine below_step (by assumption) ?side ?_; case side => (first | omega | (with_reducible exact Below.size (by assumption)) | (simp; done) | (simp; omega))))), .inl ⟨by rw [hzI.out]; exact hne, by rw [hzI.out]⟩⟩)
    have r0 := ht.cell k0
    have r1 := ht.cell k1
    simp [results, Try.results35, go_sem, r0, r1]
  obtain rfl : z = 0 := by simpa using h0
  obtain ⟨hck, -, hne⟩ := askZ_zero hzI.out
  obtain ⟨hok, hw0, hw8⟩ := okBk_of HPI.out.1 HLI.out.1 hck
  have HNE := Lib.hid hne
  have HK := Lib.hid hok
  have hl8 := hok.hl
  have hp5 := hok.hp
  clear hck hok h0 hne
  gi_wp2_with fail
  refine ⟨trivial, callsIn_wide.2 ((truths_c _ _ np cp nl cl wrg pl ls _ (by omega) (HPI.out.later hbw1) (HLI.out.later hbw1)).mono ?_)⟩
  rintro e w2 ⟨b1, b2, rfl, h1, h2, hm, hb2⟩
  have HM := Lib.hid hm
  have B0 := HB0.out.below hb2 n1_0
  have B1 := HB1.out.below hb2 n1_1
  have hbw2 : Below w.heap.size w w2 := hbw1.trans (hb2.mono z1)
  have zw2 := hb2.size
  have q0 := B0.cell
  have HB02 := Lib.hid B0
  have HB12 := Lib.hid B1
  clear hm h1 h2 d0 d1 f1 hb2 B0 B1 HB0 HB1 hbw1
  gi_wp2
  have en := enters_of Try.func72 (by kernel_rfl) rfl
  refine wpIn_range (gf := 72) (fst := #[]) (lb := #[.pointer (some ⟨b1, 0, none⟩), .pointer (some ⟨b2, 0, none⟩)]) rfl en (nets1_c b1 b2 Ap Al np cp nl cl wrg (min wrg nl) pl ls HK.out) ?hps
    (fun j W => j = 0 ∧ Below w.heap.size w W ∧ Blk W w.heap.size 25 #[.slice Ap np cp, .slice Al nl cl, .int .i64 wrg] ∧ Blk W (w.heap.size + 1) 41 #[.slice none 0 0, .slice none 0 0] ∧
      NetMem b1 b2 Ap Al np cp nl cl wrg (min wrg nl) pl ls W)
    (fun c W => c = .exit 0 ∧ ∃ s0 A1 c1 A2 c2, (truthSets np nl pl ls wrg)[0]? = some s0 ∧ Below w.heap.size w W ∧ Blk W (w.heap.size + 1) 41 #[.slice A1 nl c1, .slice A2 nl c2] ∧
      IntsAt W A1 nl (plW np nl pl ls s0 nl) ∧ IntsAt W A2 nl (plS np nl pl ls s0 nl)) ?hI ?hIx ?hmem ?hi0 ?hround ?hdone ?hstop
  case hps => rintro x args W ⟨A, c, rfl, -⟩; rfl
  case hI =>
    rintro j W W' ⟨a0, a1, a2, a3, a4⟩ ht
    exact ⟨a0, ht.below (by omega) a1.size a1, (ht.heap a2 rfl).trans a2, (ht.heap a3 rfl).trans a3, a4.tame ht⟩
  case hIx =>
    rintro c W W' ⟨a0, s0, A1, c1, A2, c2, a1, a2, a3, a4, a5⟩ ht
    exact ⟨a0, s0, A1, c1, A2, c2, a1, ht.below (by omega) a2.size a2, (ht.heap a3 rfl).trans a3, ht.ints a4, ht.ints a5⟩
  case hmem => rintro j W ⟨_, _, _, _, h⟩; exact h
  case hi0 => exact ⟨rfl, hbw2, HB02.out, HB12.out, HM.out⟩
  case hround =>
    rintro l j x args W hl' hx ⟨rfl, a1, a2, a3, a4⟩ ⟨A, c, rfl, hpp⟩
    replace hx := Lib.hid hx
    replace hpp := Lib.hid hpp
    gi_wp2
    refine ⟨KeepsFrom.refl _ _, fun W2 ht => ?_⟩
    have t1 := ht.below (by omega) a1.size a1
    have t2 : Blk W2 w.heap.size 25 #[.slice Ap np cp, .slice Al nl cl, .int .i64 wrg] := (ht.heap a2 rfl).trans a2
    have t3 : Blk W2 (w.heap.size + 1) 41 #[.slice none 0 0, .slice none 0 0] := (ht.heap a3 rfl).trans a3
    have hP := Lib.hid (pps_tame ht hpp.out)
    have r0 := t2.cell
    have l3 := t3.lt
    have zt1 := t1.size
    have T3 := Lib.hid t3
    clear a1 a2 a3 a4 hpp ht t2 t3 q0
    have hmx : x ∈ netSets np nl pl ls (min wrg nl) := List.mem_of_getElem? hx.out
    obtain ⟨q, hq⟩ : ∃ q : Nat, min wrg (nl : Int) = q := ⟨(min wrg (nl : Int)).toNat, by omega⟩
    have PO : Hid (∀ k, k ≤ 2 * nl → PlOk np nl pl ls x k) := Lib.hid (pl_ok HK.out (mem_sets hl8 HK.out (by rw [hq] at hmx; exact hmx)).2.2)
    clear hmx hq
    gi_wp2_with fail
    refine wpIn_loop (fun a' wr => ∃ (k : Nat) (A3 : Option Addr) (c3 : Nat) (V1 V2 u6 u7 u23 u24 u25 u26 u27 u28 u29 u30 u31 u32 u33 u34 u35 u36 u37 u38 u39 u40 u41 u42 u43 u44 u45 u46 u47 u48 u49 u50 u51 : Value), k ≤ 2 * nl ∧
        a' = { tmps := #[.agg #[.slice Ap np cp, .slice Al nl cl, .int .i64 wrg], .pointer (some ⟨w.heap.size, 0, none⟩), .pointer (some ⟨w.heap.size + 1, 0, none⟩), .int .i64 0, .int .i64 0, .slice A3 (2 * nl + np + 1) c3, u6, u7, .agg #[.slice Ap np cp, .slice Al nl cl, .int .i64 wrg], .int .i64 0, .int .i64 0, .bool false, undef, undef, .agg #[.slice Ap np cp, .slice Al nl cl, .int .i64 wrg], .func (.func 72) #[] #[.pointer (some ⟨b1, 0, none⟩), .pointer (some ⟨b2, 0, none⟩)], .slice A (2 * nl + np + 1) c, .int .u64 x, .pointer (some ⟨w.heap.size, 1, none⟩), .slice Al nl cl, .int .i64 nl, .int .i64 (2 * nl), .int .i64 k, u23, u24, u25, u26, u27, u28, u29, u30, u31, u32, u33, u34, u35, u36, u37, u38, u39, u40, u41, u42, u43, u44, u45, u46, u47, u48, u49, u50, u51], defers := [] } ∧ Hid (PlI (w.heap.size + 1) W2.heap.size np nl pl ls x k A3 V1 V2 w W2 wr w2.heap.size))
      (fun a' _ => 2 * nl - (intOf (a'.tmps.getD 22 undef)).toNat) ?h0 ?round
    case h0 => exact ⟨0, A, c, .slice none 0 0, .slice none 0 0, _, _, _, _, _, _, _, _, _, _, _, _, _, _, _, _, _, _, _, _, _, _, _, _, _, _, _, _, _, _, _, by omega, rfl, ⟨hP.out, T3.out, World.ownsRow_nil _ _ _ _, World.ownsRow_nil _ _ _ _, fun j hj => by simp [Value.ownBlock] at hj, t1, KeepsFrom.refl _ _, Nat.le_refl _⟩⟩
    case round =>
      rintro a' wr ⟨k, A3, c3, V1, V2, u6, u7, u23, u24, u25, u26, u27, u28, u29, u30, u31, u32, u33, u34, u35, u36, u37, u38, u39, u40, u41, u42, u43, u44, u45, u46, u47, u48, u49, u50, u51, hk, rfl, h⟩
      by_cases hlt : k < 2 * nl
      · have hltB : decide ((k : Int) < 2 * (nl : Int)) = true := by simp; omega
        have P := PO.out k hk
        have hb := pl_bd HK.out P hlt
        have ok := pl_okPp HK.out P
        have HOK := Lib.hid ok
        have HPP := Lib.hid P
        clear P ok
        gi_wp2_with fail
        refine ⟨trivial, callsIn_wide.2 ((ends_c A3 _ c3 k (plN np nl pl ls x k) _ (by omega) (by omega) h.out.hP HOK.out hb.1 hb.2.1 hb.2.2).mono ?_)⟩
        obtain ⟨xk, hxk⟩ : ∃ xk, plX np nl pl ls x k = xk := ⟨_, rfl⟩
        have HXK := Lib.hid hxk
        rw [show (endsP (2 * nl + np + 1) (plN np nl pl ls x k) k).lo = xk from hxk]
        rintro e w3 ⟨rfl, hb3⟩
        clear hb hxk
        have hfd := run_low xk (endsP (2 * nl + np + 1) (plN np nl pl ls x k) k).hi w3
        gi_wp2_with fail
        clear hfd
        refine ⟨trivial, callsIn_wide.2 ((with_fresh A3 _ c3 k xk xk (plN np nl pl ls x k) _ (by omega) (by omega) (h.out.hP.later hb3)).mono ?_)⟩
        rintro e w4 ⟨g4, c4, rfl, hg4, hg4b, hp4, hb4⟩
        have z3 := hb3.size
        have hb34 : Below wr.heap.size wr w4 := hb3.trans (hb4.mono z3)
        have z34 := hb34.size
        have hg4a : wr.heap.size ≤ g4 := by omega
        have HP4 : Hid (PpsAt w4 (some ⟨g4, 0, none⟩) (2 * nl + np + 1) (plN np nl pl ls x (k + 1))) := by
          rw [← HXK.out] at hp4; exact hp4
        have zB := h.out.bel.size
        have zS := h.out.sz
        clear hb3 hb4 hp4 hg4
        obtain ⟨m, hm⟩ : ∃ m, k = 2 * m ∨ k = 2 * m + 1 := ⟨k / 2, by omega⟩
        rcases hm with hm | hm
        · have hmod : ((k : Int) % 2 == 0) = true := by simp; omega
          replace hm := Lib.hid hm
          have ow : wr.ownsRow W2.heap.size 3 1 V1 m ((plW np nl pl ls x m).flatMap encI) := by
            have := h.out.o1
            rwa [show (k + 1) / 2 = m by have := hm.out; omega] at this
          have OW := Lib.hid (own_below ow hb34)
          have v0 := (h.out.blk.below hb34 h.out.blk.lt).cell 0
          have vl := h.out.blk.lt
          have BK := Lib.hid (h.out.blk.below hb34 h.out.blk.lt)
          clear ow
          gi_wp2_with (gi_at_builtin; go_must (refine wpListIn_append_T _ (enc := encI) (d := (0 : Int)) rfl (.tmp 39) (.tmp 41) _ rfl W2.heap.size _ 1 8 intE encI_len encI_one V1 m (plW np nl pl ls x m) rfl ?_ _ 1 _ [xk] rfl ?_ ?_ ?_ ?_; (exact OW.out.alloc _); (exact sl_new encI_len rfl rfl rfl); (have := hm.out; omega); (simp; omega); (intro v5 w5 ho5 hg5 hv5; obtain ⟨A5, c5, rfl, -, -⟩ := SlAt.of_own (d := (0 : Int)) encI_len ho5 (by simp [plW_len, plS_len]); have BW := ((BK.out.alloc _).grown hg5 (fun e => by have := (OW.out.lt _ e.symm).1; omega)); have y0 := BW.cell 0; have y1 := BW.frozen 0; have y2 := BW.lt; have HO5 := Lib.hid ho5; have HG5 := Lib.hid hg5; have HV5 := Lib.hid hv5; clear ho5 hg5 hv5 BW v0)))
          obtain rfl : k = 2 * m := hm.out
          refine ⟨⟨2 * m + 1, some ⟨g4, 0, none⟩, c4, .slice A5 (m + 1) c5, V2, _, _, _, _, _, _, _, _, _, _, _, _, _, _, _, _, _, _, _, _, _, _, _, _, _, _, _, _, _, _, _, by omega, rfl, ?_⟩, by simp [intOf]; omega⟩
          exact h.out.even (by omega) (Nat.le_refl _) (by omega) hb34 hg4a hg4b HP4.out (by rw [HXK.out]; exact HO5.out) HG5.out HV5.out
        · have hmod : ((k : Int) % 2 == 0) = false := by simp; omega
          replace hm := Lib.hid hm
          have ow : wr.ownsRow W2.heap.size 3 1 V2 m ((plS np nl pl ls x m).flatMap encI) := by
            have := h.out.o2
            rwa [show k / 2 = m by have := hm.out; omega] at this
          have OW := Lib.hid (own_below ow hb34)
          have v0 := (h.out.blk.below hb34 h.out.blk.lt).cell 1
          have vl := h.out.blk.lt
          have BK := Lib.hid (h.out.blk.below hb34 h.out.blk.lt)
          clear ow
          gi_wp2_with (gi_at_builtin; go_must (refine wpListIn_append_T _ (enc := encI) (d := (0 : Int)) rfl (.tmp 45) (.tmp 47) _ rfl W2.heap.size _ 1 8 intE encI_len encI_one V2 m (plS np nl pl ls x m) rfl ?_ _ 1 _ [xk] rfl ?_ ?_ ?_ ?_; (exact OW.out.alloc _); (exact sl_new encI_len rfl rfl rfl); (have := hm.out; omega); (simp; omega); (intro v5 w5 ho5 hg5 hv5; obtain ⟨A5, c5, rfl, -, -⟩ := SlAt.of_own (d := (0 : Int)) encI_len ho5 (by simp [plW_len, plS_len]); have BW := ((BK.out.alloc _).grown hg5 (fun e => by have := (OW.out.lt _ e.symm).1; omega)); have y0 := BW.cell 1; have y1 := BW.frozen 1; have y2 := BW.lt; have HO5 := Lib.hid ho5; have HG5 := Lib.hid hg5; have HV5 := Lib.hid hv5; clear ho5 hg5 hv5 BW v0)))
          obtain rfl : k = 2 * m + 1 := hm.out
          refine ⟨⟨2 * m + 1 + 1, some ⟨g4, 0, none⟩, c4, V1, .slice A5 (m + 1) c5, _, _, _, _, _, _, _, _, _, _, _, _, _, _, _, _, _, _, _, _, _, _, _, _, _, _, _, _, _, _, _, by omega, rfl, ?_⟩, by simp [intOf]; omega⟩
          exact h.out.odd (by omega) (Nat.le_refl _) (by omega) hb34 hg4a hg4b HP4.out (by rw [HXK.out]; exact HO5.out) HG5.out HV5.out
      · have hltB : decide ((k : Int) < 2 * (nl : Int)) = false := by simp; omega
        obtain rfl : k = 2 * nl := by omega
        have o1 := h.out.o1
        have o2 := h.out.o2
        rw [show (2 * nl + 1) / 2 = nl by omega] at o1
        rw [show 2 * nl / 2 = nl by omega] at o2
        obtain ⟨A1, c1, rfl, -, hs1⟩ := SlAt.of_own (d := (0 : Int)) encI_len o1 (plW_len nl)
        obtain ⟨A2, c2, rfl, -, hs2⟩ := SlAt.of_own (d := (0 : Int)) encI_len o2 (plS_len nl)
        have HS1 := Lib.hid hs1
        have HS2 := Lib.hid hs2
        clear o1 o2 hs1 hs2
        gi_wp2_with fail
        exact ⟨h.out.kp, rfl, x, A1, c1, A2, c2, hx.out, h.out.bel, h.out.blk, ints_iff.2 HS1.out, ints_iff.2 HS2.out⟩
  case hdone =>
    rintro D W hD ⟨a0, -⟩ hK
    have := HNE.out
    rw [List.eq_nil_of_length_eq_zero (show (truthSets np nl pl ls wrg).length = 0 from a0)] at this
    cases this
  case hstop =>
    rintro D c W hD ⟨rfl, s0, A1, c1, A2, c2, a1, a2, a3, a4, a5⟩ hK
    have y0 := a3.cell
    have y1 := a3.frozen
    have yl := a3.lt
    have HA := Lib.hid (And.intro a4 a5)
    have HE := Lib.hid a1
    have HD' := Lib.hid hK
    have zz := a2.size
    clear a4 a5 a1 hK a3
    gi_wp2
    have e1 := set_same (y0 0)
    have e2 := set_same (w := W.setCell ⟨w.heap.size + 1, 0, none⟩ (.slice A1 nl c1)) (a := ⟨w.heap.size + 1, 1, none⟩) (v := .slice A2 nl c2) ((e1 _).trans (y0 1))
    have e3 := fun q => (e2 q).trans (e1 q)
    have k0 := (e3 _).trans (y0 0)
    have k1 := (e3 _).trans (y0 1)
    refine leave_mark (v := .tuple #[.agg #[.slice A1 nl c1, .slice A2 nl c2], .int .i64 0]) (D := D) ((Below.heap_setCell _ _ _ _ (by simp; omega)).trans ((Below.heap_setCell _ _ _ _ (by simp; omega)).trans HD'.out)) (fun W' ht => ?_) (fun W' ht => ?_)
    · have r0 := ht.cell k0
      have r1 := ht.cell k1
      simp at r0 r1
      simp [results, Try.results35, go_sem, r0, r1]
    · exact ⟨ht.below (by omega) (by simp; omega) ((a2.setCell (by simp) _).setCell (by simp) _), .inr ⟨hzI.out, s0, A1, c1, A2, c2, HE.out, rfl, ht.ints (HA.out.1.of_same (by simp) e3), ht.ints (HA.out.2.of_same (by simp) e3)⟩⟩

end Go.Proofs.Ytoehifincdflhaa
