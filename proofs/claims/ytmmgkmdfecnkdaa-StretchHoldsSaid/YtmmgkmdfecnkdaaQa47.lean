/- A pull that the call itself makes; Copy of the specification (layer 4). -/
import Derived.Test.YtmmgkmdfecnkdaaChecked
import Derived.Test.YtmmgkmdfecnkdaaQa10
import Derived.Handy
import Derived.Deep.DrawnRows
import Derived.Deep.DeepCutAuto
import Derived.OrdersHeld
import Derived.Deep.RegionHeld
import Derived.Deep.RegionLaw
namespace Go.Proofs.Ytmmgkmdfecnkdaa
open Go.RowKit
open Go.Sort (grow)
set_option linter.unusedVariables false
set_option linter.unusedSimpArgs false

theorem roE : ElemT Try.prog 24 49 3 24 := by
  obtain ⟨i0, hi0, hz0, hz1, hz2⟩ := info_parts (P := Try.prog) (show (Try.prog.info? 49).map (fun i => (i.zero, i.size, i.bytes)) = some (some (.agg #[.int .i64 0, .int .i64 0, .int .i64 0]), 3, 24) by kernel_rfl)
  exact ⟨Try.underlying24, ⟨i0, _, hi0, hz0, hz1, hz2, rfl⟩, by omega, by omega⟩
theorem reE : ElemT Try.prog 25 51 7 56 := by
  obtain ⟨i0, hi0, hz0, hz1, hz2⟩ := info_parts (P := Try.prog) (show (Try.prog.info? 51).map (fun i => (i.zero, i.size, i.bytes)) = some (some (.agg #[.int .i64 0, .int .i64 0, .int .i64 0, .int .i64 0, .int .i64 0, .int .i64 0, .int .i64 0]), 7, 56) by kernel_rfl)
  exact ⟨Try.underlying25, ⟨i0, _, hi0, hz0, hz1, hz2, rfl⟩, by omega, by omega⟩
theorem step_append_B {P : Program} (w : World) {α : Type} {enc : α → List Value} {d : α} {ops : Array Oper} {o : Oper} {a : Act} {K : Act → World → Prop} {Q : Exit → Act → World → Prop} {Z : Prop} (hgd : o.guard = none) (s x : Operand) (t : TypeId)
    (ho : o.op = .call { callee := .builtin .append, args := #[s, x], argTypes := #[t, t] })
    (base : Nat) (e : TypeId) (size bytes : Nat) (E : ElemT P t e size bytes) (hs : ∀ x, (enc x).length = size) (h1 : ∀ x, ∀ u ∈ enc x, u.oneCell' = true)
    (v : Value) (ob : Option Nat) (n : Nat) (xs : List α) (hv : a.eval s = v) (hob : v.ownBlock = ob) (hown : w.ownsRow base e size v n (xs.flatMap enc))
    (A : Option Addr) (m c : Nat) (ys : List α) (hx : a.eval x = .slice A m c) (hr : SlAt enc size d w A m ys)
    (hsz : (n + m) * bytes ≤ 140737488355328) (hln : n + m ≤ 140737488355328) (hbase : base ≤ w.heap.size)
    (h : ∀ v' w', w'.ownsRow base e size v' (n + m) ((xs ++ ys).flatMap enc) → w.grownBy w' ob → (v'.ownBlock = ob ∨ v'.ownBlock = some w.heap.size) → K (a.put o.dst v') w') :
    if Region.wanted o (yielded ops a.tmps) = true then Oper.wp P o a w K Q else Z := by
  obtain ⟨i, z, h2, h3, h4, h5, h6⟩ := E.info
  refine step_append_any w hgd s x t ho base e i z size bytes E.ht h2 h3 h4 h5 h6 E.pos v n (xs.flatMap enc) hv hown w.heap.size A m c (ys.flatMap enc) hx (hr.reads hs E.pos) (oneCell_flat h1 ys) (by unfold maxLen; omega) hsz hbase ?_
  intro v' w' k1 k2 k3
  subst hob
  exact h v' w' (by rw [List.flatMap_append]; exact k1) k2 k3
theorem wpList_append_B {P : Program} (w : World) {α : Type} {enc : α → List Value} {d : α} {ops : Array Oper} {rest : List Oper} {o : Oper} {a : Act} {Q : Exit → Act → World → Prop} (hgd : o.guard = none) (s x : Operand) (t : TypeId)
    (ho : o.op = .call { callee := .builtin .append, args := #[s, x], argTypes := #[t, t] })
    (base : Nat) (e : TypeId) (size bytes : Nat) (E : ElemT P t e size bytes) (hs : ∀ x, (enc x).length = size) (h1 : ∀ x, ∀ u ∈ enc x, u.oneCell' = true)
    (v : Value) (ob : Option Nat) (n : Nat) (xs : List α) (hv : a.eval s = v) (hob : v.ownBlock = ob) (hown : w.ownsRow base e size v n (xs.flatMap enc))
    (A : Option Addr) (m c : Nat) (ys : List α) (hx : a.eval x = .slice A m c) (hr : SlAt enc size d w A m ys)
    (hsz : (n + m) * bytes ≤ 140737488355328) (hln : n + m ≤ 140737488355328) (hbase : base ≤ w.heap.size)
    (h : ∀ v' w', w'.ownsRow base e size v' (n + m) ((xs ++ ys).flatMap enc) → w.grownBy w' ob → (v'.ownBlock = ob ∨ v'.ownBlock = some w.heap.size) → wpList P ops Q rest (a.put o.dst v') w') : wpList P ops Q (o :: rest) a w := by
  obtain ⟨i, z, h2, h3, h4, h5, h6⟩ := E.info
  refine wpList_append_any w hgd s x t ho base e i z size bytes E.ht h2 h3 h4 h5 h6 E.pos v n (xs.flatMap enc) hv hown w.heap.size A m c (ys.flatMap enc) hx (hr.reads hs E.pos) (oneCell_flat h1 ys) (by unfold maxLen; omega) hsz hbase ?_
  intro v' w' k1 k2 k3
  subst hob
  exact h v' w' (by rw [List.flatMap_append]; exact k1) k2 k3
theorem step_append_EB {P : Program} (X : World) {α : Type} {enc : α → List Value} {d : α} {ops : Array Oper} {o : Oper} {a : Act} {K : Act → World → Prop} {Q : Exit → Act → World → Prop} {Z : Prop} (hgd : o.guard = none) (s x : Operand) (t : TypeId)
    (ho : o.op = .call { callee := .builtin .append, args := #[s, x], argTypes := #[t, t] })
    (B : Nat) (W : World) (e : TypeId) (size bytes : Nat) (E : ElemT P t e size bytes) (hs : ∀ x, (enc x).length = size) (h1 : ∀ x, ∀ u ∈ enc x, u.oneCell' = true)
    (g : Nat) (hv : a.eval s = .slice (some ⟨g, 0, none⟩) 0 0) (hown : X.ownsRow B e size (.slice (some ⟨g, 0, none⟩) 0 0) 0 [])
    (A : Option Addr) (m c : Nat) (ys : List α) (hx : a.eval x = .slice A m c) (hr : SlAt enc size d X A m ys)
    (hsz : m * bytes ≤ 140737488355328) (hln : m ≤ 140737488355328) (hb : Below B W X) (hB : B ≤ W.heap.size)
    (h : ∀ A' c' w', Hid (w'.ownsRow B e size (.slice A' m c') m (ys.flatMap enc)) → X.grownBy w' (some g) → ((Value.slice A' m c').ownBlock = some g ∨ (Value.slice A' m c').ownBlock = some X.heap.size) → Below B W w' → K (a.put o.dst (.slice A' m c')) w') :
    if Region.wanted o (yielded ops a.tmps) = true then Oper.wp P o a X K Q else Z := by
  refine step_append_B X (d := d) hgd s x t ho B e size bytes E hs h1 _ (some g) 0 [] hv rfl hown A m c ys hx hr (by rw [Nat.zero_add]; exact hsz) (by rw [Nat.zero_add]; exact hln) (Nat.le_trans hB hb.size) ?_
  intro v' w' k1 k2 k3
  rw [Nat.zero_add, List.nil_append] at k1
  obtain ⟨A', c', rfl, -, -⟩ := SlAt.of_own (d := d) hs k1 hr.1
  exact h A' c' w' k1 k2 k3 (Below.grown hb k2 (Nat.le_trans hB hb.size) fun k hk => by cases hk; exact (hown.lt g rfl).1)
/-- a pull that the call itself has made -/
structure PuOwn (base : Nat) (A1 : Option Addr) (np c1 : Nat) (A2 : Option Addr) (nl c2 : Nat) (rs : List Ro4) (ds : List Re4) (w : World) : Prop where
  hp : w.ownsRow base 49 3 (.slice A1 np c1) np (rs.flatMap encR4)
  hl : w.ownsRow base 51 7 (.slice A2 nl c2) nl (ds.flatMap encE4)
  ne : ∀ k, (Value.slice A1 np c1).ownBlock = some k → (Value.slice A2 nl c2).ownBlock = some k → False
theorem PuOwn.later {base : Nat} {A1 : Option Addr} {np c1 : Nat} {A2 : Option Addr} {nl c2 : Nat} {rs : List Ro4} {ds : List Re4} {w w' : World} (h : PuOwn base A1 np c1 A2 nl c2 rs ds w) (hb : Below w.heap.size w w') : PuOwn base A1 np c1 A2 nl c2 rs ds w' := ⟨own_below h.hp hb, own_below h.hl hb, h.ne⟩
theorem PuOwn.ne1 {base : Nat} {A1 : Option Addr} {np c1 : Nat} {A2 : Option Addr} {nl c2 : Nat} {rs : List Ro4} {ds : List Re4} {w : World} (h : PuOwn base A1 np c1 A2 nl c2 rs ds w) : (Value.slice A1 np c1).ownBlock = none ∨ (Value.slice A1 np c1).ownBlock ≠ (Value.slice A2 nl c2).ownBlock := by
  cases e : (Value.slice A1 np c1).ownBlock with
  | none => exact .inl rfl
  | some k => exact .inr fun e' => h.ne k e e'.symm
theorem PuOwn.ne2 {base : Nat} {A1 : Option Addr} {np c1 : Nat} {A2 : Option Addr} {nl c2 : Nat} {rs : List Ro4} {ds : List Re4} {w : World} (h : PuOwn base A1 np c1 A2 nl c2 rs ds w) : (Value.slice A2 nl c2).ownBlock = none ∨ (Value.slice A2 nl c2).ownBlock ≠ (Value.slice A1 np c1).ownBlock := by
  cases e : (Value.slice A2 nl c2).ownBlock with
  | none => exact .inl rfl
  | some k => exact .inr fun e' => h.ne k e'.symm e
theorem PuOwn.mem {base : Nat} {A1 : Option Addr} {np c1 : Nat} {A2 : Option Addr} {nl c2 : Nat} {p : P4} {w : World} (h : PuOwn base A1 np c1 A2 nl c2 p.rods p.res w) (hp : p.rods.length = np) (hl : p.res.length = nl) : MemP A1 np A2 nl p w := by
  obtain ⟨_, _, e1, -, h1⟩ := SlAt.of_own (d := (⟨0, 0, 0⟩ : Ro4)) encR4_len h.hp hp
  obtain ⟨_, _, e2, -, h2⟩ := SlAt.of_own (d := (⟨0, 0, 0, 0, 0, 0, 0⟩ : Re4)) encE4_len h.hl hl
  cases e1; cases e2
  exact ⟨h1, h2⟩
set_option maxRecDepth 100000 in
set_option maxHeartbeats 3200000 in
theorem Copy4_c (Ap : Option Addr) (np cp : Nat) (Al : Option Addr) (nl cl : Nat) (p : P4) (w : World) (hp : np * 24 ≤ 140737488355328) (hl : nl * 56 ≤ 140737488355328) (HM : MemP Ap np Al nl p w) :
    Calls Try.prog 7 #[.agg #[.int .i64 p.ir, .int .i64 p.glo, .int .i64 p.ghi, .slice Ap np cp, .slice Al nl cl, .int .i64 p.wr]] w
      fun e w' => ∃ A1 c1 A2 c2, e = .returned (.agg #[.int .i64 p.ir, .int .i64 p.glo, .int .i64 p.ghi, .slice A1 np c1, .slice A2 nl c2, .int .i64 p.wr]) ∧ PuOwn w.heap.size A1 np c1 A2 nl c2 p.rods p.res w' ∧ Below w.heap.size w w' := by
  have HPI := Lib.hid HM.hr
  have HLI := Lib.hid HM.hd
  clear HM
  obtain ⟨ir, glo, ghi, wrg, pl, ls⟩ := p
  simp only at HPI HLI ⊢
  go_enter Try.func7, Try.ntmps7
  go_wp2
  go_name_world W hW
  obtain ⟨hB, hz⟩ := al3 hW
  obtain ⟨l_0, q_0, f_0⟩ := al3_0 hW
  obtain ⟨l_1, q_1, f_1⟩ := al3_1 hW
  obtain ⟨l_2, q_2, f_2⟩ := al3_2 hW
  have HZ := Lib.hid hz
  have zs := hB.size
  clear hW hz
  go_region_held3 (fun w' => w'.cell? ⟨w.heap.size, 3, none⟩ = some (.slice Ap np cp) ∧ w'.cell? ⟨w.heap.size, 4, none⟩ = some (.slice Al nl cl))
    (first | exact ⟨q_0 3, q_0 4⟩ | exact ⟨(hb12.cell (p := ⟨w.heap.size, 3, none⟩) l_0).trans (q_0 3), (hb12.cell (p := ⟨w.heap.size, 4, none⟩) l_0).trans (q_0 4)⟩ | exact ⟨(hb8.cell (p := ⟨w.heap.size, 3, none⟩) l_0).trans (q_0 3), (hb8.cell (p := ⟨w.heap.size, 4, none⟩) l_0).trans (q_0 4)⟩ | (refine ⟨?_, ?_⟩ <;> (repeat first | exact (hb12.cell (p := ⟨w.heap.size, 3, none⟩) l_0).trans (q_0 3) | exact (hb12.cell (p := ⟨w.heap.size, 4, none⟩) l_0).trans (q_0 4) | refine (World.cell?_setCell_other _ _ _ _ (by simp)).trans ?_); done) | go_keep)
    (first
      | ((refine step_append_EB _ (d := (⟨0, 0, 0⟩ : Ro4)) rfl (.tmp 5) (.tmp 7) _ rfl W.heap.size W _ 3 24 roE encR4_len encR4_one _ (by rfl) ?ow Ap np cp pl (by rfl) ?sl (by omega) (by omega) ?bl (Nat.le_refl _) ?_); (case ow => (repeat first | with_reducible refine World.ownsRow.drew ?_ | exact own_empty (Nat.le_refl _) rfl | exact own_empty (by omega) rfl | exact own_empty (by first | omega | (simp; done) | (simp; omega)) (by simp) | with_reducible refine World.ownsRow.alloc ?_ _ | (refine World.ownsRow.kept ?_ hg8 (.inr (by (simp [Value.ownBlock] <;> omega)))))); (case bl => (repeat first | with_reducible assumption | with_reducible exact Below.refl _ _ | (with_reducible refine Below.alloc ?_ ?side _; case side => (first | omega | (with_reducible exact Below.size (by assumption)) | (simp; done) | (simp; omega))) | (with_reducible refine Below.setCell ?_ ?side _; case side => (first | omega | (with_reducible exact Below.size (by assumption)) | (simp; done) | (simp; omega))) | with_reducible refine Below.drew ?_ | with_reducible refine below_drewN ?_ _ | (with_reducible refine below_step (by assumption) ?side ?_; case side => (first | omega | (with_reducible exact Below.size (by assumption)) | (simp; done) | (simp; omega))))); (case sl => exact HPI.out.later (by (repeat first | with_reducible assumption | with_reducible exact Below.refl _ _ | (with_reducible refine Below.alloc ?_ ?side _; case side => (first | omega | (with_reducible exact Below.size (by assumption)) | (simp; done) | (simp; omega))) | (with_reducible refine Below.setCell ?_ ?side _; case side => (first | omega | (with_reducible exact Below.size (by assumption)) | (simp; done) | (simp; omega))) | with_reducible refine Below.drew ?_ | with_reducible refine below_drewN ?_ _ | (with_reducible refine below_step (by assumption) ?side ?_; case side => (first | omega | (with_reducible exact Below.size (by assumption)) | (simp; done) | (simp; omega)))))); intro A8 C8 w8 ho8 hg8 ha8 hb8; have z8 := hg8.size; (try simp at z8); have m8 : w.heap.size + 1 + 1 < w8.heap.size := (by omega); have c8_0 := (hb8.cell (p := ⟨w.heap.size + 1 + 1, 0, none⟩) l_2).trans (q_2 0); have c8_1 := (hb8.cell (p := ⟨w.heap.size + 1 + 1, 1, none⟩) l_2).trans (q_2 1); have c8_2 := (hb8.cell (p := ⟨w.heap.size + 1 + 1, 2, none⟩) l_2).trans (q_2 2); have c8_3 := (hb8.cell (p := ⟨w.heap.size + 1 + 1, 3, none⟩) l_2).trans (q_2 3); have c8_4 := (hb8.cell (p := ⟨w.heap.size + 1 + 1, 4, none⟩) l_2).trans (q_2 4); have c8_5 := (hb8.cell (p := ⟨w.heap.size + 1 + 1, 5, none⟩) l_2).trans (q_2 5); have f8 := fun i => (hb8.frozen (p := ⟨w.heap.size + 1 + 1, i, none⟩) l_2).trans (f_2 i))
      | ((refine step_append_EB _ (d := (⟨0, 0, 0, 0, 0, 0, 0⟩ : Re4)) rfl (.tmp 9) (.tmp 11) _ rfl W.heap.size W _ 7 56 reE encE4_len encE4_one _ (by rfl) ?ow Al nl cl ls (by rfl) ?sl (by omega) (by omega) ?bl (Nat.le_refl _) ?_); (case ow => (repeat first | with_reducible refine World.ownsRow.drew ?_ | exact own_empty (Nat.le_refl _) rfl | exact own_empty (by omega) rfl | exact own_empty (by first | omega | (simp; done) | (simp; omega)) (by simp) | with_reducible refine World.ownsRow.alloc ?_ _ | (refine World.ownsRow.kept ?_ hg8 (.inr (by (simp [Value.ownBlock] <;> omega)))))); (case bl => (repeat first | with_reducible assumption | with_reducible exact Below.refl _ _ | (with_reducible refine Below.alloc ?_ ?side _; case side => (first | omega | (with_reducible exact Below.size (by assumption)) | (simp; done) | (simp; omega))) | (with_reducible refine Below.setCell ?_ ?side _; case side => (first | omega | (with_reducible exact Below.size (by assumption)) | (simp; done) | (simp; omega))) | with_reducible refine Below.drew ?_ | with_reducible refine below_drewN ?_ _ | (with_reducible refine below_step (by assumption) ?side ?_; case side => (first | omega | (with_reducible exact Below.size (by assumption)) | (simp; done) | (simp; omega))))); (case sl => exact HLI.out.later (by (repeat first | with_reducible assumption | with_reducible exact Below.refl _ _ | (with_reducible refine Below.alloc ?_ ?side _; case side => (first | omega | (with_reducible exact Below.size (by assumption)) | (simp; done) | (simp; omega))) | (with_reducible refine Below.setCell ?_ ?side _; case side => (first | omega | (with_reducible exact Below.size (by assumption)) | (simp; done) | (simp; omega))) | with_reducible refine Below.drew ?_ | with_reducible refine below_drewN ?_ _ | (with_reducible refine below_step (by assumption) ?side ?_; case side => (first | omega | (with_reducible exact Below.size (by assumption)) | (simp; done) | (simp; omega)))))); intro A12 C12 w12 ho12 hg12 ha12 hb12; have z12 := hg12.size; (try simp at z12); have m12 : w.heap.size + 1 + 1 < w12.heap.size := (by omega); have c12_0 := (hb12.cell (p := ⟨w.heap.size + 1 + 1, 0, none⟩) l_2).trans (q_2 0); have c12_1 := (hb12.cell (p := ⟨w.heap.size + 1 + 1, 1, none⟩) l_2).trans (q_2 1); have c12_2 := (hb12.cell (p := ⟨w.heap.size + 1 + 1, 2, none⟩) l_2).trans (q_2 2); have c12_3 := (hb12.cell (p := ⟨w.heap.size + 1 + 1, 3, none⟩) l_2).trans (q_2 3); have c12_4 := (hb12.cell (p := ⟨w.heap.size + 1 + 1, 4, none⟩) l_2).trans (q_2 4); have c12_5 := (hb12.cell (p := ⟨w.heap.size + 1 + 1, 5, none⟩) l_2).trans (q_2 5); have f12 := fun i => (hb12.frozen (p := ⟨w.heap.size + 1 + 1, i, none⟩) l_2).trans (f_2 i)))
  all_goals
    have NE : ∀ k, (Value.slice A8 np C8).ownBlock = some k → (Value.slice A12 nl C12).ownBlock = some k → False := by
      intro k h1 h2
      have a1 := (ho8.out.lt k h1).2
      rcases ha8 with h | h <;> rcases ha12 with h' | h' <;> (rw [h1] at h; rw [h2] at h'; simp at h h' <;> omega)
    have K8 : Hid (w12.ownsRow W.heap.size 49 3 (.slice A8 np C8) np (pl.flatMap encR4)) := by
      first
        | refine ho8.out.kept hg12 (.inr fun e => ?_)
        | refine (ho8.out.alloc _).kept hg12 (.inr fun e => ?_)
      have a1 := (ho8.out.lt _ e).2
      rcases ha8 with h | h <;> (rw [e] at h; simp at h <;> omega)
    have NE8 := Lib.hid NE
    clear NE ha8 ha12 hg8 hg12 c8_0 c8_1 c8_2 c8_3 c8_4 c8_5 f8
    have p1 := fun i => (hb12.cell (p := ⟨w.heap.size + 1, i, none⟩) l_1).trans (q_1 i)
    have g1 := fun i => (hb12.frozen (p := ⟨w.heap.size + 1, i, none⟩) l_1).trans (f_1 i)
    have n1 : w.heap.size + 1 < w12.heap.size := by omega
    go_wp2
    refine bodyPost_ret (v := .agg #[.int .i64 ir, .int .i64 glo, .int .i64 ghi, .slice A8 np C8, .slice A12 nl C12, .int .i64 wrg]) ?_ rfl ⟨A8, C8, A12, C12, rfl, ⟨?_, ?_, NE8.out⟩, ?_⟩
    · simp [results, Try.results7, go_sem, p1]
    · refine own_mono ?_ zs
      repeat first | with_reducible exact K8.out | refine own_set ?_ (fun k hk => by have := (K8.out.lt k hk).1; simp; omega)
    · refine own_mono ?_ zs
      repeat first | with_reducible exact ho12.out | refine own_set ?_ (fun k hk => by have := (ho12.out.lt k hk).1; simp; omega)
    · (repeat first | with_reducible assumption | with_reducible exact Below.refl _ _ | (with_reducible refine Below.alloc ?_ ?side _; case side => (first | omega | (with_reducible exact Below.size (by assumption)) | (simp; done) | (simp; omega))) | (with_reducible refine Below.setCell ?_ ?side _; case side => (first | omega | (with_reducible exact Below.size (by assumption)) | (simp; done) | (simp; omega))) | with_reducible refine Below.drew ?_ | with_reducible refine below_drewN ?_ _ | (with_reducible refine below_step (by assumption) ?side ?_; case side => (first | omega | (with_reducible exact Below.size (by assumption)) | (simp; done) | (simp; omega))))

end Go.Proofs.Ytmmgkmdfecnkdaa
