/- Copy of the specification (layer 11): an equal book in new memory. -/
import Derived.Deep.DrawnRows
import Derived.Test.YtdhlnlmhdacblaaTs35
import Derived.Test.YtdhlnlmhdacblaaTs02
namespace Go.Proofs.Ytdhlnlmhdacblaa
open Go.RowKit
open Go.Sort (grow)
set_option linter.unusedVariables false
set_option linter.unusedSimpArgs false

attribute [local go_sem ↓] Go.wp_at_zero Go.wp_at_succ
def encL (l : Ln) : List Value := [.int .i64 l.fr, .int .i64 l.to, .int .i64 l.w.lo, .int .i64 l.w.hi, .int .i64 l.s.lo, .int .i64 l.s.hi]
theorem encL_len (p : Ln) : (encL p).length = 6 := rfl
theorem encL_one (x : Ln) : ∀ u ∈ encL x, u.oneCell' = true := by
  intro u hu; simp only [encL, List.mem_cons, List.not_mem_nil, or_false] at hu; rcases hu with rfl | rfl | rfl | rfl | rfl | rfl <;> rfl
theorem lns_iff {w : World} {A : Option Addr} {n : Nat} {xs : List Ln} : LnsAt w A n xs ↔ SlAt encL 6 ⟨0, 0, ⟨0, 0⟩, ⟨0, 0⟩⟩ w A n xs := Iff.rfl
theorem sp_info_q11 : (Try.prog.info? 29).map (fun i => (i.zero, i.size, i.bytes)) = some (some (.agg #[.int .i64 0, .int .i64 0]), 2, 16) := by kernel_rfl
theorem spE_q11 : ElemT Try.prog 45 29 2 16 := by
  obtain ⟨i0, hi0, hz0, hz1, hz2⟩ := info_parts sp_info_q11
  exact ⟨Try.underlying45, ⟨i0, _, hi0, hz0, hz1, hz2, rfl⟩, by omega, by omega⟩
theorem ln_info : (Try.prog.info? 52).map (fun i => (i.zero, i.size, i.bytes)) = some (some (.agg #[.int .i64 0, .int .i64 0, .int .i64 0, .int .i64 0, .int .i64 0, .int .i64 0]), 6, 48) := by kernel_rfl
theorem lnE : ElemT Try.prog 46 52 6 48 := by
  obtain ⟨i0, hi0, hz0, hz1, hz2⟩ := info_parts ln_info
  exact ⟨Try.underlying46, ⟨i0, _, hi0, hz0, hz1, hz2, rfl⟩, by omega, by omega⟩
theorem own_set_q11 {w : World} {base : Nat} {e : TypeId} {size : Nat} {v : Value} {n : Nat} {xs : List Value} (h : w.ownsRow base e size v n xs) {p : Addr} {u : Value} (hp : ∀ k, v.ownBlock = some k → k ≠ p.block) : (w.setCell p u).ownsRow base e size v n xs := by
  obtain ⟨h1, h2⟩ := h
  refine ⟨h1, ?_⟩
  rcases h2 with h2 | ⟨g, cap, cur, hv, hg, hh, r⟩
  · exact Or.inl h2
  · refine Or.inr ⟨g, cap, cur, hv, hg, ?_, r⟩
    subst hv
    exact (Below.heap_setCell w p u g (hp g rfl)).trans hh

theorem own_mono_q11 {w : World} {base base' : Nat} {e : TypeId} {size : Nat} {v : Value} {n : Nat} {xs : List Value} (h : w.ownsRow base e size v n xs) (hb : base' ≤ base) : w.ownsRow base' e size v n xs := by
  obtain ⟨h1, h2⟩ := h
  refine ⟨h1, ?_⟩
  rcases h2 with h2 | ⟨g, cap, cur, hv, hg, r⟩
  · exact Or.inl h2
  · exact Or.inr ⟨g, cap, cur, hv, Nat.le_trans hb hg, r⟩
theorem step_append_E_q11 {P : Program} (X : World) {α : Type} {enc : α → List Value} {d : α} {ops : Array Oper} {o : Oper} {a : Act} {K : Act → World → Prop} {Q : Exit → Act → World → Prop} {Z : Prop} (hgd : o.guard = none) (s x : Operand) (t : TypeId)
    (ho : o.op = .call { callee := .builtin .append, args := #[s, x], argTypes := #[t, t] })
    (B : Nat) (W : World) (e : TypeId) (size bytes : Nat) (E : ElemT P t e size bytes) (hs : ∀ x, (enc x).length = size) (h1 : ∀ x, ∀ u ∈ enc x, u.oneCell' = true)
    (g : Nat) (hv : a.eval s = .slice (some ⟨g, 0, none⟩) 0 0) (hown : X.ownsRow B e size (.slice (some ⟨g, 0, none⟩) 0 0) 0 [])
    (A : Option Addr) (m c : Nat) (ys : List α) (hx : a.eval x = .slice A m c) (hr : SlAt enc size d X A m ys)
    (hsz : m ≤ 100000) (hb : Below B W X) (hB : B ≤ W.heap.size)
    (h : ∀ A' c' w', Hid (w'.ownsRow B e size (.slice A' m c') m (ys.flatMap enc)) → X.grownBy w' (some g) → ((Value.slice A' m c').ownBlock = some g ∨ (Value.slice A' m c').ownBlock = some X.heap.size) → Below B W w' → K (a.put o.dst (.slice A' m c')) w') :
    if Region.wanted o (yielded ops a.tmps) = true then Oper.wp P o a X K Q else Z := by
  refine step_append_T X (d := d) hgd s x t ho B e size bytes E hs h1 _ (some g) 0 [] hv rfl hown A m c ys hx hr (by omega) (Nat.le_trans hB hb.size) ?_
  intro v' w' k1 k2 k3
  rw [Nat.zero_add, List.nil_append] at k1
  obtain ⟨A', c', rfl, -, -⟩ := SlAt.of_own (d := d) hs k1 hr.1
  exact h A' c' w' k1 k2 k3 (Below.grown hb k2 (Nat.le_trans hB hb.size) fun k hk => by cases hk; exact (hown.lt g rfl).1)

/-- a book that the call itself has made -/
structure BookOwn (base np nl : Nat) (A1 A2 : Option Addr) (c1 c2 : Nat) (pl : List Sp) (ls : List Ln) (w : World) : Prop where
  hp : w.ownsRow base 29 2 (.slice A1 np c1) np (pl.flatMap encS)
  hl : w.ownsRow base 52 6 (.slice A2 nl c2) nl (ls.flatMap encL)
  ne : ∀ k, (Value.slice A1 np c1).ownBlock = some k → (Value.slice A2 nl c2).ownBlock = some k → False

set_option maxRecDepth 100000 in
set_option maxHeartbeats 3200000 in
theorem Copy_c_q11 (Ap Al : Option Addr) (np cp nl cl : Nat) (wrg : Int) (pl : List Sp) (ls : List Ln) (w : World) (hp : np ≤ 40) (hl : nl ≤ 40) (HP : SpsAt w Ap np pl) (HL : LnsAt w Al nl ls) :
    Calls Try.prog 43 #[.agg #[.slice Ap np cp, .slice Al nl cl, .int .i64 wrg]] w
      fun e w' => ∃ A1 c1 A2 c2, e = .returned (.agg #[.slice A1 np c1, .slice A2 nl c2, .int .i64 wrg]) ∧ BookOwn w.heap.size np nl A1 A2 c1 c2 pl ls w' ∧ Below w.heap.size w w' := by
  have HPI := Lib.hid HP
  have HLI := Lib.hid HL
  clear HP HL
  go_enter Try.func43, Try.ntmps43
  go_wp2
  go_name_world W hW
  obtain ⟨hB, hz⟩ := al3 hW
  obtain ⟨l_0, q_0, f_0⟩ := al3_0 hW
  obtain ⟨l_1, q_1, f_1⟩ := al3_1 hW
  obtain ⟨l_2, q_2, f_2⟩ := al3_2 hW
  have HZ := Lib.hid hz
  have zs := hB.size
  clear hW hz
  go_region_held3 (fun w' => w'.cell? ⟨w.heap.size, 0, none⟩ = some (.slice Ap np cp) ∧ w'.cell? ⟨w.heap.size, 1, none⟩ = some (.slice Al nl cl))
    (first | exact ⟨q_0 0, q_0 1⟩ | exact ⟨(hb12.cell (p := ⟨w.heap.size, 0, none⟩) l_0).trans (q_0 0), (hb12.cell (p := ⟨w.heap.size, 1, none⟩) l_0).trans (q_0 1)⟩ | exact ⟨(hb8.cell (p := ⟨w.heap.size, 0, none⟩) l_0).trans (q_0 0), (hb8.cell (p := ⟨w.heap.size, 1, none⟩) l_0).trans (q_0 1)⟩ | (refine ⟨?_, ?_⟩ <;> (repeat first | exact (hb12.cell (p := ⟨w.heap.size, 0, none⟩) l_0).trans (q_0 0) | exact (hb12.cell (p := ⟨w.heap.size, 1, none⟩) l_0).trans (q_0 1) | refine (World.cell?_setCell_other _ _ _ _ (by simp)).trans ?_); done) | go_keep)
    (first
      | ((refine step_append_E_q11 _ (d := (⟨0, 0⟩ : Sp)) rfl (.tmp 5) (.tmp 7) _ rfl W.heap.size W _ 2 16 spE_q11 encS_len encS_one _ (by rfl) ?ow Ap np cp pl (by rfl) ?sl (by omega) ?bl (Nat.le_refl _) ?_); (case ow => (repeat first | with_reducible refine World.ownsRow.drew ?_ | exact own_empty (Nat.le_refl _) rfl | exact own_empty (by omega) rfl | exact own_empty (by first | omega | (simp; done) | (simp; omega)) (by simp) | with_reducible refine World.ownsRow.alloc ?_ _ | (refine World.ownsRow.kept ?_ hg8 (.inr (by (simp [Value.ownBlock] <;> omega)))))); (case bl => (repeat first | with_reducible assumption | with_reducible exact Below.refl _ _ | (with_reducible refine Below.alloc ?_ ?side _; case side => (first | omega | (with_reducible exact Below.size (by assumption)) | (simp; done) | (simp; omega))) | (with_reducible refine Below.setCell ?_ ?side _; case side => (first | omega | (with_reducible exact Below.size (by assumption)) | (simp; done) | (simp; omega))) | with_reducible refine Below.drew ?_ | with_reducible refine below_drewN ?_ _ | (with_reducible refine below_step (by assumption) ?side ?_; case side => (first | omega | (with_reducible exact Below.size (by assumption)) | (simp; done) | (simp; omega))))); (case sl => exact sps_iff.1 (HPI.out.later (by (repeat first | with_reducible assumption | with_reducible exact Below.refl _ _ | (with_reducible refine Below.alloc ?_ ?side _; case side => (first | omega | (with_reducible exact Below.size (by assumption)) | (simp; done) | (simp; omega))) | (with_reducible refine Below.setCell ?_ ?side _; case side => (first | omega | (with_reducible exact Below.size (by assumption)) | (simp; done) | (simp; omega))) | with_reducible refine Below.drew ?_ | with_reducible refine below_drewN ?_ _ | (with_reducible refine below_step (by assumption) ?side ?_; case side => (first | omega | (with_reducible exact Below.size (by assumption)) | (simp; done) | (simp; omega))))))); intro A8 C8 w8 ho8 hg8 ha8 hb8; have z8 := hg8.size; (try simp at z8); have m8 : w.heap.size + 1 + 1 < w8.heap.size := (by omega); have c8_0 := (hb8.cell (p := ⟨w.heap.size + 1 + 1, 0, none⟩) l_2).trans (q_2 0); have c8_1 := (hb8.cell (p := ⟨w.heap.size + 1 + 1, 1, none⟩) l_2).trans (q_2 1); have c8_2 := (hb8.cell (p := ⟨w.heap.size + 1 + 1, 2, none⟩) l_2).trans (q_2 2); have f8 := fun i => (hb8.frozen (p := ⟨w.heap.size + 1 + 1, i, none⟩) l_2).trans (f_2 i))
      | ((refine step_append_E_q11 _ (d := (⟨0, 0, ⟨0, 0⟩, ⟨0, 0⟩⟩ : Ln)) rfl (.tmp 9) (.tmp 11) _ rfl W.heap.size W _ 6 48 lnE encL_len encL_one _ (by rfl) ?ow Al nl cl ls (by rfl) ?sl (by omega) ?bl (Nat.le_refl _) ?_); (case ow => (repeat first | with_reducible refine World.ownsRow.drew ?_ | exact own_empty (Nat.le_refl _) rfl | exact own_empty (by omega) rfl | exact own_empty (by first | omega | (simp; done) | (simp; omega)) (by simp) | with_reducible refine World.ownsRow.alloc ?_ _ | (refine World.ownsRow.kept ?_ hg8 (.inr (by (simp [Value.ownBlock] <;> omega)))))); (case bl => (repeat first | with_reducible assumption | with_reducible exact Below.refl _ _ | (with_reducible refine Below.alloc ?_ ?side _; case side => (first | omega | (with_reducible exact Below.size (by assumption)) | (simp; done) | (simp; omega))) | (with_reducible refine Below.setCell ?_ ?side _; case side => (first | omega | (with_reducible exact Below.size (by assumption)) | (simp; done) | (simp; omega))) | with_reducible refine Below.drew ?_ | with_reducible refine below_drewN ?_ _ | (with_reducible refine below_step (by assumption) ?side ?_; case side => (first | omega | (with_reducible exact Below.size (by assumption)) | (simp; done) | (simp; omega))))); (case sl => exact lns_iff.1 (HLI.out.later (by (repeat first | with_reducible assumption | with_reducible exact Below.refl _ _ | (with_reducible refine Below.alloc ?_ ?side _; case side => (first | omega | (with_reducible exact Below.size (by assumption)) | (simp; done) | (simp; omega))) | (with_reducible refine Below.setCell ?_ ?side _; case side => (first | omega | (with_reducible exact Below.size (by assumption)) | (simp; done) | (simp; omega))) | with_reducible refine Below.drew ?_ | with_reducible refine below_drewN ?_ _ | (with_reducible refine below_step (by assumption) ?side ?_; case side => (first | omega | (with_reducible exact Below.size (by assumption)) | (simp; done) | (simp; omega))))))); intro A12 C12 w12 ho12 hg12 ha12 hb12; have z12 := hg12.size; (try simp at z12); have m12 : w.heap.size + 1 + 1 < w12.heap.size := (by omega); have c12_0 := (hb12.cell (p := ⟨w.heap.size + 1 + 1, 0, none⟩) l_2).trans (q_2 0); have c12_1 := (hb12.cell (p := ⟨w.heap.size + 1 + 1, 1, none⟩) l_2).trans (q_2 1); have c12_2 := (hb12.cell (p := ⟨w.heap.size + 1 + 1, 2, none⟩) l_2).trans (q_2 2); have f12 := fun i => (hb12.frozen (p := ⟨w.heap.size + 1 + 1, i, none⟩) l_2).trans (f_2 i)))
  all_goals
    have NE : ∀ k, (Value.slice A8 np C8).ownBlock = some k → (Value.slice A12 nl C12).ownBlock = some k → False := by
      intro k h1 h2
      have a1 := (ho8.out.lt k h1).2
      rcases ha8 with h | h <;> rcases ha12 with h' | h' <;> (rw [h1] at h; rw [h2] at h'; simp at h h' <;> omega)
    have K8 : Hid (w12.ownsRow W.heap.size 29 2 (.slice A8 np C8) np (pl.flatMap encS)) := by
      first
        | refine ho8.out.kept hg12 (.inr fun e => ?_)
        | refine (ho8.out.alloc _).kept hg12 (.inr fun e => ?_)
      have a1 := (ho8.out.lt _ e).2
      rcases ha8 with h | h <;> (rw [e] at h; simp at h <;> omega)
    have NE8 := Lib.hid NE
    clear NE ha8 ha12 hg8 hg12 c8_0 c8_1 c8_2 f8
    have p1 := fun i => (hb12.cell (p := ⟨w.heap.size + 1, i, none⟩) l_1).trans (q_1 i)
    have g1 := fun i => (hb12.frozen (p := ⟨w.heap.size + 1, i, none⟩) l_1).trans (f_1 i)
    have n1 : w.heap.size + 1 < w12.heap.size := by omega
    go_wp2
    refine bodyPost_ret (v := .agg #[.slice A8 np C8, .slice A12 nl C12, .int .i64 wrg]) ?_ rfl ⟨A8, C8, A12, C12, rfl, ⟨?_, ?_, NE8.out⟩, ?_⟩
    · simp [results, Try.results43, go_sem, p1]
    · refine own_mono_q11 ?_ zs
      repeat first | with_reducible exact K8.out | refine own_set_q11 ?_ (fun k hk => by have := (K8.out.lt k hk).1; simp; omega)
    · refine own_mono_q11 ?_ zs
      repeat first | with_reducible exact ho12.out | refine own_set_q11 ?_ (fun k hk => by have := (ho12.out.lt k hk).1; simp; omega)
    · (repeat first | with_reducible assumption | with_reducible exact Below.refl _ _ | (with_reducible refine Below.alloc ?_ ?side _; case side => (first | omega | (with_reducible exact Below.size (by assumption)) | (simp; done) | (simp; omega))) | (with_reducible refine Below.setCell ?_ ?side _; case side => (first | omega | (with_reducible exact Below.size (by assumption)) | (simp; done) | (simp; omega))) | with_reducible refine Below.drew ?_ | with_reducible refine below_drewN ?_ _ | (with_reducible refine below_step (by assumption) ?side ?_; case side => (first | omega | (with_reducible exact Below.size (by assumption)) | (simp; done) | (simp; omega))))

end Go.Proofs.Ytdhlnlmhdacblaa
