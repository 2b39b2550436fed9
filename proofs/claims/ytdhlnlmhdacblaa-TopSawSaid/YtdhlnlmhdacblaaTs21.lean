/- A region that draws its order, under a condition on the world that holds until its last operation, which waits for all others; What cut of scrap (layer 11) works on: the saw's block, the rests and the counts of cuts. -/
import Derived.Test.YtdhlnlmhdacblaaTs12
import Derived.Test.YtdhlnlmhdacblaaTs03
import Derived.OrdersHeld
import Derived.Deep.RegionHeld
import Derived.Deep.RegionLaw
import Derived.Test.YtdhlnlmhdacblaaTs20
import Derived.Test.YtdhlnlmhdacblaaTs06
import Derived.Test.YtdhlnlmhdacblaaTs08
namespace Go.Proofs.Ytdhlnlmhdacblaa
open Go.RowKit
open Go.Sort (grow)
set_option linter.unusedVariables false
set_option linter.unusedSimpArgs false

theorem getD_dd {listed : Array Bool} {i : Nat} (hi : i < listed.size) (d d' : Bool) : listed.getD i d = listed.getD i d' := by
  simp only [Array.getD_eq_getD_getElem?, Array.getElem?_eq_getElem hi, Option.getD_some]
section
variable {P : Program} {ops : Array Oper} {Q : Exit → Act → World → Prop} {S : World → Prop} {m : Nat}
/-- whatever order is picked from here on; S holds behind every operation but m -/
def wpAnyL (P : Program) (ops : Array Oper) (Q : Exit → Act → World → Prop) (S : World → Prop) (m : Nat) : Nat → Array Bool → Act → World → Prop
  | 0, listed, a, w => Region.ready .any ops listed = [] ∧ Q .normal a w
  | fuel + 1, listed, a, w =>
    (Region.ready .any ops listed = [] → Q .normal a w) ∧
    ∀ i ∈ Region.ready .any ops listed, wpOp P ops Q i (fun a' w' => (i ≠ m → S w') ∧ wpAnyL P ops Q S m fuel (listed.setIfInBounds i true) a' w') a w
theorem wpAny_of_L : ∀ (fuel : Nat) (listed : Array Bool) (a : Act) (w : World), wpAnyL P ops Q S m fuel listed a w → wpAny P .any ops Q fuel listed a w
  | 0, _, _, _, h => h
  | fuel + 1, _, _, _, h => ⟨h.1, fun i hi => wpOp_mono (fun a' w' h' => wpAny_of_L fuel _ a' w' h'.2) (h.2 i hi)⟩
/-- an operation that reads is taken first -/
theorem wpAnyL_first {i : Nat} {oi : Oper} {v : Value} (hi : ops[i]? = some oi) (hsel : ∀ (j : Nat) (o : Oper) cs b, ops[j]? = some o → o.op ≠ .select cs b)
    (hm : ∀ o, ops[m]? = some o → ∃ e ∈ o.after, Region.binds .any e = true ∧ e.on = i) (hQ : ∀ c a w, Q (.panic c) (a.put oi.dst v) w → Q (.panic c) a w) :
    ∀ (fuel : Nat) (listed : Array Bool) (a : Act) (w : World), (∀ j oj, ops[j]? = some oj → j ≠ i → listed.getD j true = false → (∀ e ∈ oj.after, Region.binds .any e = true → e.on ≠ i) → oi.apart ops oj = true) →
      i ∈ Region.ready .any ops listed → YieldsIf P ops S oi v a → S w → wpAnyL P ops Q S m fuel (listed.setIfInBounds i true) (a.put oi.dst v) w → wpAnyL P ops Q S m (fuel + 1) listed a w := by
  intro fuel
  induction fuel with
  | zero =>
    intro listed a w _ hr hy hS H
    refine ⟨fun h => (by rw [h] at hr; cases hr), fun j hj => ?_⟩
    by_cases hji : j = i
    · subst hji; exact hy.wpOp hi hS ⟨fun _ => hS, H⟩
    · have := ready_mono hj hji
      rw [H.1] at this
      cases this
  | succ fuel ih =>
    intro listed a w hfree hr hy hS H
    refine ⟨fun h => (by rw [h] at hr; cases hr), fun j hj => ?_⟩
    by_cases hji : j = i
    · subst hji; exact hy.wpOp hi hS ⟨fun _ => hS, H⟩
    · have h1 := H.2 j (ready_mono hj hji)
      obtain ⟨hjun, oj, hoj, hall⟩ := mem_ready.1 hj
      have hun : ∀ e ∈ oj.after, Region.binds .any e = true → e.on ≠ i := fun e he hb heq => by
        have k1 := hall e he hb
        have k0 := (mem_ready.1 hr).1
        rw [heq] at k1
        rcases Nat.lt_or_ge i listed.size with h' | h'
        · rw [getD_dd h' false true, k0] at k1; cases k1
        · rw [Array.getD_eq_getD_getElem?, Array.getElem?_eq_none h'] at k1; cases k1
      have hjm : j ≠ m := fun e => by
        subst e
        obtain ⟨e, he, hb, heq⟩ := hm oj hoj
        exact hun e he hb heq
      have h2 := wpOp_putIf hoj (hfree j oj hoj hji hjun hun) (fun cs b => hsel i oi cs b hi) (fun cs b => hsel j oj cs b hoj) hQ hy h1
      refine wpOp_mono (fun a' w' h3 => ⟨fun _ => h3.2.1 hjm, ih _ a' w' (fun k ok hk hki hu hno => ?_) (ready_mono hr (Ne.symm hji)) h3.1 (h3.2.1 hjm) ?_⟩) h2
      · refine hfree k ok hk hki ?_ hno
        by_cases hjk : j = k
        · subst hjk; exact hjun
        · rw [getD_set_ne true hjk] at hu; exact hu
      · rw [Array.setIfInBounds_comm _ _ hji]
        exact h3.2.2
def waitsFor (ops : Array Oper) (m i : Nat) : Bool := ((ops[m]?).map fun o => o.after.any fun e => Region.binds .any e && decide (e.on = i)).getD true
theorem wpAnyL_take {i : Nat} {oi : Oper} {v : Value} {fuel : Nat} {listed : Array Bool} {a : Act} {w : World} (hi : ops[i]? = some oi) (hs : Region.noSelect ops = true) (hf : Region.free .any ops listed i = true)
    (hr : (Region.ready .any ops listed).contains i = true) (hm : waitsFor ops m i = true) (hQ : ∀ c a w, Q (.panic c) (a.put oi.dst v) w → Q (.panic c) a w) (hS : S w) (hy : YieldsIf P ops S oi v a)
    (h : wpAnyL P ops Q S m fuel (listed.setIfInBounds i true) (a.put oi.dst v) w) : wpAnyL P ops Q S m (fuel + 1) listed a w := by
  refine wpAnyL_first hi (Region.noSelect_spec hs) (fun o ho => ?_) hQ fuel listed a w (Region.free_spec hi hf) (by simpa using hr) hy hS h
  unfold waitsFor at hm
  rw [ho] at hm
  simp only [Option.map_some, Option.getD_some, Array.any_eq_true] at hm
  obtain ⟨k, hk, hx⟩ := hm
  simp only [Bool.and_eq_true, decide_eq_true_eq] at hx
  exact ⟨_, Array.getElem_mem hk, hx.1, hx.2⟩
/-- the only one that may come up -/
theorem wpAnyL_one {i : Nat} {o : Oper} {fuel : Nat} {listed : Array Bool} {a : Act} {w : World} (hr : Region.ready .any ops listed = [i]) (ho : ops[i]? = some o)
    (h : ∀ K : Act → World → Prop, Shut (∀ a' w', (i ≠ m → S w') → ((i ≠ m → S w') → wpAnyL P ops Q S m fuel (listed.setIfInBounds i true) a' w') → K a' w') → if Region.wanted o (yielded ops a.tmps) = true then Oper.wp P o a w K Q else K (a.put o.dst undef) w) :
    wpAnyL P ops Q S m (fuel + 1) listed a w := by
  refine ⟨fun h0 => (by rw [hr] at h0; cases h0), fun j hj => ?_⟩
  rw [hr] at hj
  obtain rfl : j = i := by simpa using hj
  exact wpOp_step ho fun K' hK => h K' fun a' w' h1 h2 => hK a' w' ⟨h1, h2 h1⟩
theorem wpAnyL_done {listed : Array Bool} {a : Act} {w : World} (hr : Region.ready .any ops listed = []) (h : Q .normal a w) : ∀ fuel, wpAnyL P ops Q S m fuel listed a w
  | 0 => ⟨hr, h⟩
  | _ + 1 => ⟨fun _ => h, by rw [hr]; simp⟩
theorem wp_region_L {id : Nat} {a : Act} {w : World} (hm : P.follows .mixedOrders = true) (S : World → Prop) (m : Nat) (h : wpAnyL P ops Q S m ops.size (Array.replicate ops.size false) a w.drew) : (Code.region id ops true).wp P Q a w :=
  wp_region_any hm (wpAny_of_L _ _ _ _ h)
end

section
variable {P : Program} {ops : Array Oper} {Q : Exit → Act → World → Prop} {S : World → Prop} {m : Nat}
/-- two may come up -/
theorem wpAnyL_two {i j : Nat} {o1 o2 : Oper} {fuel : Nat} {listed : Array Bool} {a : Act} {w : World} (hr : Region.ready .any ops listed = [i, j]) (ho1 : ops[i]? = some o1) (ho2 : ops[j]? = some o2)
    (h1 : ∀ K : Act → World → Prop, Shut (∀ a' w', (i ≠ m → S w') → ((i ≠ m → S w') → wpAnyL P ops Q S m fuel (listed.setIfInBounds i true) a' w') → K a' w') → if Region.wanted o1 (yielded ops a.tmps) = true then Oper.wp P o1 a w K Q else K (a.put o1.dst undef) w)
    (h2 : ∀ K : Act → World → Prop, Shut (∀ a' w', (j ≠ m → S w') → ((j ≠ m → S w') → wpAnyL P ops Q S m fuel (listed.setIfInBounds j true) a' w') → K a' w') → if Region.wanted o2 (yielded ops a.tmps) = true then Oper.wp P o2 a w K Q else K (a.put o2.dst undef) w) :
    wpAnyL P ops Q S m (fuel + 1) listed a w := by
  refine ⟨fun h0 => (by rw [hr] at h0; cases h0), fun k hk => ?_⟩
  rw [hr] at hk
  rcases List.mem_cons.1 hk with rfl | hk
  · exact wpOp_step ho1 fun K' hK => h1 K' fun a' w' h1 h2 => hK a' w' ⟨h1, h2 h1⟩
  · obtain rfl : k = j := by simpa using hk
    exact wpOp_step ho2 fun K' hK => h2 K' fun a' w' h1 h2 => hK a' w' ⟨h1, h2 h1⟩
end
theorem hAt_ge {hs hs' : List Hd} {k : Nat} : hAt (hs ++ hs') (hs.length + k) = hAt hs' k := by
  unfold hAt; rw [List.getD_eq_getElem?_getD, List.getD_eq_getElem?_getD, List.getElem?_append_right (by omega)]; congr 2; omega
theorem xAt_ge {hs hs' : List (List Int)} {k : Nat} : xAt (hs ++ hs') (hs.length + k) = xAt hs' k := by
  unfold xAt; rw [List.getD_eq_getElem?_getD, List.getD_eq_getElem?_getD, List.getElem?_append_right (by omega)]; congr 2; omega
theorem hAt_lo {hs hs' : List Hd} {k : Nat} (h : k < hs.length) : hAt (hs ++ hs') k = hAt hs k := by
  unfold hAt; rw [List.getD_eq_getElem?_getD, List.getD_eq_getElem?_getD, List.getElem?_append_left h]
theorem xAt_lo {hs hs' : List (List Int)} {k : Nat} (h : k < hs.length) : xAt (hs ++ hs') k = xAt hs k := by
  unfold xAt; rw [List.getD_eq_getElem?_getD, List.getD_eq_getElem?_getD, List.getElem?_append_left h]
/-- others appended -/
theorem OwnSs.app {base : Nat} {e : TypeId} {w w' : World} {v v' : Value} {n m : Nat} {hs hs' : List Hd} {xss xss' : List (List Int)} (h : OwnSs base e w v n hs xss) (hl : hs'.length = m) (xl : xss'.length = m)
    (hin : ∀ k, k < m → IntsAt w (hAt hs' k).A (hAt hs' k).n (xAt xss' k)) (hne : ∀ k, k < m → ∀ a, (hAt hs' k).A = some a → v.ownBlock ≠ some a.block ∧ a.block < w.heap.size)
    (ho : w'.ownsRow base e 1 v' (n + m) ((hs ++ hs').flatMap encH)) (hg : w.grownBy w' v.ownBlock) (ha : v'.ownBlock = v.ownBlock ∨ v'.ownBlock = some w.heap.size) : OwnSs base e w' v' (n + m) (hs ++ hs') (xss ++ xss') := by
  have hsz := hg.size
  have one : ∀ (y : Hd) (ys : List Int), IntsAt w y.A y.n ys → (∀ a, y.A = some a → v.ownBlock ≠ some a.block ∧ a.block < w.heap.size) → IntsAt w' y.A y.n ys ∧ ∀ a, y.A = some a → v'.ownBlock ≠ some a.block ∧ a.block < w'.heap.size := by
    intro y ys h1 h2
    refine ⟨IntsAt.grown h1 hg fun a e => (h2 a e).1, fun a e => ⟨?_, by have := (h2 a e).2; omega⟩⟩
    rcases ha with ha | ha
    · rw [ha]; exact (h2 a e).1
    · rw [ha]
      intro e'
      have h3 := (h2 a e).2
      have h4 := Option.some.inj e'
      omega
  refine ⟨ho, by simp [h.hl, hl], by simp [h.xl, xl], fun k hk => ?_⟩
  rcases Nat.lt_or_ge k n with h' | h'
  · rw [hAt_lo (by rw [h.hl]; exact h'), xAt_lo (by rw [h.xl]; exact h')]
    exact one _ _ (h.inn k h').1 (h.inn k h').2
  · obtain ⟨j, rfl⟩ := Nat.exists_eq_add_of_le h'
    have e1 := hAt_ge (hs := hs) (hs' := hs') (k := j)
    have e2 := xAt_ge (hs := xss) (hs' := xss') (k := j)
    rw [h.hl] at e1
    rw [h.xl] at e2
    rw [e1, e2]
    exact one _ _ (hin j (by omega)) (hne j (by omega))

end Go.Proofs.Ytdhlnlmhdacblaa

namespace Go.Proofs.Ytdhlnlmhdacblaa
open Go.RowKit
open Go.Sort (grow)
set_option linter.unusedVariables false
set_option linter.unusedSimpArgs false

/-- what may turn: three blocks; all others are as they were -/
structure But3 (go gr gc : Nat) (W W' : World) : Prop where
  os : W'.os = W.os
  tape : W'.tape = W.tape
  output : W'.output = W.output
  size : W.heap.size ≤ W'.heap.size
  same : ∀ k, k < W.heap.size → k ≠ go → k ≠ gr → k ≠ gc → W'.heap[k]? = W.heap[k]?
section
variable {go gr gc B : Nat} {W W' W'' : World}
theorem But3.refl (go gr gc : Nat) (W : World) : But3 go gr gc W W := ⟨rfl, rfl, rfl, Nat.le_refl _, fun _ _ _ _ _ => rfl⟩
theorem But3.of_below (h : Below W.heap.size W W') : But3 go gr gc W W' := ⟨h.os, h.tape, h.output, h.size, fun k hk _ _ _ => h.block k hk⟩
theorem But3.trans (h : But3 go gr gc W W') (k : But3 go gr gc W' W'') : But3 go gr gc W W'' :=
  ⟨k.os.trans h.os, k.tape.trans h.tape, k.output.trans h.output, Nat.le_trans h.size k.size, fun j h1 h2 h3 h4 => (k.same j (Nat.lt_of_lt_of_le h1 h.size) h2 h3 h4).trans (h.same j h1 h2 h3 h4)⟩
theorem But3.set {p : Addr} (hp : p.block = go ∨ p.block = gr ∨ p.block = gc) (u : Value) : But3 go gr gc W (W.setCell p u) :=
  ⟨rfl, rfl, rfl, by simp, fun k _ h2 h3 h4 => Below.heap_setCell W p u k (by rcases hp with h | h | h <;> omega)⟩
theorem But3.drew (h : But3 go gr gc W W') : But3 go gr gc W W'.drew := ⟨h.os, h.tape, h.output, h.size, h.same⟩
theorem But3.cell {p : Addr} (h : But3 go gr gc W W') (h0 : p.block < W.heap.size) (h1 : p.block ≠ go ∧ p.block ≠ gr ∧ p.block ≠ gc) : W'.cell? p = W.cell? p := World.cell?_of_block (h.same _ h0 h1.1 h1.2.1 h1.2.2)
theorem But3.below (h : But3 go gr gc W W') {n : Nat} {w : World} (h1 : n ≤ go ∧ n ≤ gr ∧ n ≤ gc) (hb : Below n w W) (hs : n ≤ W.heap.size) : Below n w W' :=
  ⟨h.os.trans hb.os, h.tape.trans hb.tape, h.output.trans hb.output, Nat.le_trans hb.size h.size, fun k hk => (h.same k (by omega) (by omega) (by omega) (by omega)).trans (hb.block k hk)⟩
end
/-- the saw in memory -/
structure CutM (B go gr gc cr cc nb : Nat) (Ab : Option Addr) (cb : Nat) (kf : Int) (Ap : Option Addr) (np cp : Nat) (wrg : Int) (rests cuts : List Int) (best : Nat) (W : World) : Prop where
  blk : Blk W go 68 #[.slice Ab nb cb, .int .i64 kf, .slice Ap np cp, .int .i64 wrg, .slice (some ⟨gr, 0, none⟩) nb cr, .slice (some ⟨gc, 0, none⟩) nb cc, .int .i64 best]
  o2 : W.ownsRow B 3 1 (.slice (some ⟨gr, 0, none⟩) nb cr) nb (rests.flatMap encI)
  o3 : W.ownsRow B 3 1 (.slice (some ⟨gc, 0, none⟩) nb cc) nb (cuts.flatMap encI)
  rl : rests.length = nb
  cl : cuts.length = nb
  ne : gr ≠ go ∧ gc ≠ go ∧ gr ≠ gc
  ge : B ≤ go
section
variable {B go gr gc cr cc nb cb np cp best : Nat} {Ab Ap : Option Addr} {kf wrg : Int} {rests cuts : List Int} {W W' : World}
theorem CutM.later (h : CutM B go gr gc cr cc nb Ab cb kf Ap np cp wrg rests cuts best W) (hb : Below W.heap.size W W') : CutM B go gr gc cr cc nb Ab cb kf Ap np cp wrg rests cuts best W' :=
  ⟨h.blk.below hb h.blk.lt, own_below h.o2 hb, own_below h.o3 hb, h.rl, h.cl, h.ne, h.ge⟩
theorem CutM.drew (h : CutM B go gr gc cr cc nb Ab cb kf Ap np cp wrg rests cuts best W) : CutM B go gr gc cr cc nb Ab cb kf Ap np cp wrg rests cuts best W.drew := h.later (Below.drew (Below.refl _ _))
theorem CutM.ges (h : CutM B go gr gc cr cc nb Ab cb kf Ap np cp wrg rests cuts best W) : B ≤ go ∧ B ≤ gr ∧ B ≤ gc := ⟨h.ge, (own_addr h.o2 _ rfl).1, (own_addr h.o3 _ rfl).1⟩
theorem CutM.lts (h : CutM B go gr gc cr cc nb Ab cb kf Ap np cp wrg rests cuts best W) : go < W.heap.size ∧ gr < W.heap.size ∧ gc < W.heap.size := ⟨h.blk.lt, (own_addr h.o2 _ rfl).2, (own_addr h.o3 _ rfl).2⟩
theorem CutM.setb (h : CutM B go gr gc cr cc nb Ab cb kf Ap np cp wrg rests cuts best W) (v : Nat) : CutM B go gr gc cr cc nb Ab cb kf Ap np cp wrg rests cuts v (W.setCell ⟨go, 6, none⟩ (.int .i64 v)) := by
  obtain ⟨n1, n2, n3⟩ := h.ne
  refine ⟨?_, own_set h.o2 (fun k hk => by cases hk; exact n1), own_set h.o3 (fun k hk => by cases hk; exact n2), h.rl, h.cl, h.ne, h.ge⟩
  have := h.blk.set_ 6 (.int .i64 v)
  simpa using this
theorem CutM.set2 (h : CutM B go gr gc cr cc nb Ab cb kf Ap np cp wrg rests cuts best W) {k : Nat} (hk : k < nb) (v : Int) : CutM B go gr gc cr cc nb Ab cb kf Ap np cp wrg (rests.set k v) cuts best (W.setCell ⟨gr, k, none⟩ (.int .i64 v)) := by
  obtain ⟨n1, n2, n3⟩ := h.ne
  exact ⟨h.blk.far (fun e => n1 e.symm) _, own_int_set h.o2 h.rl hk v, own_set h.o3 (fun k hk => by cases hk; exact n3.symm), by rw [List.length_set]; exact h.rl, h.cl, h.ne, h.ge⟩
theorem CutM.set3 (h : CutM B go gr gc cr cc nb Ab cb kf Ap np cp wrg rests cuts best W) {k : Nat} (hk : k < nb) (v : Int) : CutM B go gr gc cr cc nb Ab cb kf Ap np cp wrg rests (cuts.set k v) best (W.setCell ⟨gc, k, none⟩ (.int .i64 v)) := by
  obtain ⟨n1, n2, n3⟩ := h.ne
  exact ⟨h.blk.far (fun e => n2 e.symm) _, own_set h.o2 (fun k hk => by cases hk; exact n3), own_int_set h.o3 h.cl hk v, h.rl, by rw [List.length_set]; exact h.cl, h.ne, h.ge⟩
end
theorem set_back {xs : List Int} {k : Nat} {a b v : Int} (h : k < xs.length) (e : iAt xs k = v) (hb : b = v) : (xs.set k a).set k b = xs := by
  rw [List.set_set, hb, ← e]
  unfold iAt
  rw [List.getD_eq_getElem?_getD, List.getElem?_eq_getElem h]
  exact List.set_getElem_self h
theorem swOf_len {bs : List Br} {ps : List Pc} {kf : Int} {l : List Nat} : (swOf bs ps kf l).rests.length = bs.length ∧ (swOf bs ps kf l).cuts.length = bs.length := by simp [swOf]
/-- one bar for the next piece, as cut asks it -/
theorem cut_take {bs : List Br} {ps : List Pc} {kf wr : Int} {l : List Nat} {q : Nat} (h : l.length < ps.length) (hc : q < bs.length) (ha : okB bs ps kf wr l = true) :
    okB bs ps kf wr (l ++ [q]) = (fitS kf (swOf bs ps kf l) q (pcAt ps l.length).long && decide ((bif wrB bs ps l.length q then (1 : Int) else 0) ≤ wr - (wgB bs ps l : Nat))) := by
  rw [← tkS_of h hc ha]
  unfold tkS stS
  simp only [swOf, toI_len]
  congr 1
  cases wrB bs ps l.length q
  · simp only [cond_false]; exact decide_eq_decide.2 (by omega)
  · simp only [cond_true]; exact decide_eq_decide.2 (by omega)
theorem spans4 {W : World} {g1 g2 t : Nat} {a b c d : Value} (h1 : Blk W g1 t #[a, b]) (h2 : Blk W g2 t #[c, d]) (ne : g1 ≠ g2) (a' b' c' d' : Value) :
    Blk ((((W.setCell ⟨g1, 0, none⟩ a').setCell ⟨g1, 1, none⟩ b').setCell ⟨g2, 0, none⟩ c').setCell ⟨g2, 1, none⟩ d') g1 t #[a', b'] ∧ Blk ((((W.setCell ⟨g1, 0, none⟩ a').setCell ⟨g1, 1, none⟩ b').setCell ⟨g2, 0, none⟩ c').setCell ⟨g2, 1, none⟩ d') g2 t #[c', d'] ∧
      But3 g1 g2 g2 W ((((W.setCell ⟨g1, 0, none⟩ a').setCell ⟨g1, 1, none⟩ b').setCell ⟨g2, 0, none⟩ c').setCell ⟨g2, 1, none⟩ d') := by
  refine ⟨?_, ?_, ?_⟩
  · have h := (((h1.set_ 0 a').set_ 1 b').far (p := ⟨g2, 0, none⟩) ne c').far (p := ⟨g2, 1, none⟩) ne d'
    simpa using h
  · have h := (((h2.far (p := ⟨g1, 0, none⟩) ne.symm a').far (p := ⟨g1, 1, none⟩) ne.symm b').set_ 0 c').set_ 1 d'
    simpa using h
  · exact ((((But3.refl g1 g2 g2 W).trans (.set (p := ⟨g1, 0, none⟩) (.inl rfl) _)).trans (.set (p := ⟨g1, 1, none⟩) (.inl rfl) _)).trans (.set (p := ⟨g2, 0, none⟩) (.inr (.inl rfl)) _)).trans (.set (p := ⟨g2, 1, none⟩) (.inr (.inl rfl)) _)

end Go.Proofs.Ytdhlnlmhdacblaa
