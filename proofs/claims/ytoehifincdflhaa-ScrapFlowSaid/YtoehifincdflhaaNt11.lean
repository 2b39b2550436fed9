/- A net with one pipe's bounds changed (layer 11). -/
import Derived.Test.YtoehifincdflhaaCn11
import Derived.Test.YtoehifincdflhaaOwn
namespace Go.Proofs.Ytoehifincdflhaa
open Go.RowKit
open Go.Sort (grow)
set_option linter.unusedVariables false

def encP (p : Pp) : List Value := [.int .i64 p.fr, .int .i64 p.to, .int .i64 p.lo, .int .i64 p.hi]
theorem encP_len (p : Pp) : (encP p).length = 4 := rfl
theorem pps_iff {w : World} {A : Option Addr} {n : Nat} {xs : List Pp} : PpsAt w A n xs ↔ SlAt encP 4 ⟨0, 0, 0, 0⟩ w A n xs := Iff.rfl

/-- pipe number i carries from lo to hi -/
def withPp (pp : List Pp) (i : Nat) (lo hi : Int) : List Pp := pp.set i { ppAt pp i with lo := lo, hi := hi }
theorem withPp_at (pp : List Pp) (i k : Nat) (lo hi : Int) (hi' : i < pp.length) : ppAt (withPp pp i lo hi) k = if k = i then { ppAt pp i with lo := lo, hi := hi } else ppAt pp k := by
  unfold withPp ppAt
  rw [List.getD_eq_getElem?_getD, List.getElem?_set]
  by_cases h : i = k
  · subst h; simp [hi']
  · rw [if_neg h, if_neg (fun e => h e.symm), List.getD_eq_getElem?_getD]

theorem pps_with {w : World} {g n i : Nat} {pp : List Pp} {lo hi : Int} {u v : Value} (hs : PpsAt w (some ⟨g, 0, none⟩) n pp) (hi' : i < n)
    (c2 : w.cell? ⟨g, i * 4 + 2, none⟩ = some u) (c3 : w.cell? ⟨g, i * 4 + 2 + 1, none⟩ = some v) :
    PpsAt ((w.setCell ⟨g, i * 4 + 2, none⟩ (.int .i64 lo)).setCell ⟨g, i * 4 + 2 + 1, none⟩ (.int .i64 hi)) (some ⟨g, 0, none⟩) n (withPp pp i lo hi) := by
  have hl : (withPp pp i lo hi).length = n := by simp [withPp, hs.1]
  refine ⟨hl, fun hn => ?_⟩
  obtain ⟨b, off, e, hb, hc⟩ := hs.2 hn
  simp only [Option.some.injEq, Addr.mk.injEq, and_true] at e
  obtain ⟨rfl, rfl⟩ := e
  refine ⟨g, 0, rfl, by simpa using hb, fun k hk j x hx => ?_⟩
  have hj : j < 4 := (List.getElem?_eq_some_iff.1 hx).1
  have old := fun x h => hc k hk j x h
  dsimp only at hx old
  have d3 : (w.setCell ⟨g, i * 4 + 2, none⟩ (.int .i64 lo)).cell? ⟨g, i * 4 + 2 + 1, none⟩ = some v := by
    rw [World.cell?_setCell_other _ _ _ _ (by simp)]; exact c3
  rw [withPp_at pp i k lo hi (by rw [hs.1]; exact hi')] at hx
  by_cases h3 : k = i ∧ j = 3
  · obtain ⟨rfl, rfl⟩ := h3
    rw [if_pos rfl] at hx
    cases hx
    rw [show (⟨g, 0 + k * 4 + 3, none⟩ : Addr) = ⟨g, k * 4 + 2 + 1, none⟩ by simp]
    exact World.cell?_setCell_same _ _ _ d3
  rw [World.cell?_setCell_other _ _ _ _ (by intro e; simp at e <;> omega)]
  by_cases h2 : k = i ∧ j = 2
  · obtain ⟨rfl, rfl⟩ := h2
    rw [if_pos rfl] at hx
    cases hx
    rw [show (⟨g, 0 + k * 4 + 2, none⟩ : Addr) = ⟨g, k * 4 + 2, none⟩ by simp]
    exact World.cell?_setCell_same _ _ _ c2
  rw [World.cell?_setCell_other _ _ _ _ (by intro e; simp at e <;> omega)]
  refine old x ?_
  by_cases hk' : k = i
  · subst hk'
    rw [if_pos rfl] at hx
    have : j = 0 ∨ j = 1 := by omega
    rcases this with rfl | rfl <;> exact hx
  · rw [if_neg hk'] at hx; exact hx
theorem encP_one (x : Pp) : ∀ u ∈ encP x, u.oneCell' = true := by
  intro u hu; simp only [encP, List.mem_cons, List.not_mem_nil, or_false] at hu; rcases hu with rfl | rfl | rfl | rfl <;> rfl
theorem pp_info : (Try.prog.info? 95).map (fun i => (i.zero, i.size, i.bytes)) = some (some (.agg #[.int .i64 0, .int .i64 0, .int .i64 0, .int .i64 0]), 4, 32) := by kernel_rfl
theorem ppE : ElemT Try.prog 75 95 4 32 := by
  obtain ⟨i0, hi0, hz0, hz1, hz2⟩ := info_parts pp_info
  exact ⟨Try.underlying75, ⟨i0, _, hi0, hz0, hz1, hz2, rfl⟩, by omega, by omega⟩

set_option maxHeartbeats 400000 in
theorem with_c (A : Option Addr) (n c i : Nat) (lo hi : Int) (pp : List Pp) (w : World) (hn : n ≤ 40) (hin : i < n) (HP : PpsAt w A n pp) :
    Calls Try.prog 53 #[.slice A n c, .int .i64 i, .agg #[.int .i64 lo, .int .i64 hi]] w
      fun e w' => ∃ A' c', e = .returned (.slice A' n c') ∧ PpsAt w' A' n (withPp pp i lo hi) ∧ Below w.heap.size w w' := by
  have HR := Lib.hid HP
  have HOW := Lib.hid (own_empty (w := w.alloc (.cells #[.int .i64 lo, .int .i64 hi] 31)) (base := w.heap.size) (e := 95) (size := 4) (g := w.heap.size + 1) (by simp) (by simp))
  have hl := HP.1
  clear HP
  go_enter Try.func53, Try.ntmps53
  go_wp2_with (at_builtin; go_must (refine wpList_append_T _ rfl (.tmp 8) (.tmp 9) _ rfl w.heap.size _ 4 32 ppE encP_len encP_one _ (some (w.heap.size + 1)) 0 [] rfl rfl HOW.out A n c pp rfl (pps_iff.1 (HR.out.later (by (repeat first | with_reducible assumption | with_reducible exact Below.refl _ _ | refine below_drewN ?_ _ | refine Below.drew ?_ | refine Below.alloc ?_ (by first | omega | (with_reducible exact Below.size (by assumption)) | (simp; done) | (simp; omega)) _ | refine Below.setCell ?_ (by first | omega | (with_reducible exact Below.size (by assumption)) | (simp; done) | (simp; omega)) _ | refine below_step (by assumption) (by first | omega | (with_reducible exact Below.size (by assumption)) | (simp; done) | (simp; omega)) ?_)))) (by omega) (by simp; omega) ?_; intro v1 w1 hown1 hg1 hat; rw [Nat.zero_add, List.nil_append] at hown1; obtain ⟨g, cap, rfl, hbg, hgl⟩ := hown1.form (by omega); have HO1 := Lib.hid hown1; have hb1 : Below w.heap.size w w1 := (Below.grown (by (repeat first | with_reducible assumption | with_reducible exact Below.refl _ _ | refine below_drewN ?_ _ | refine Below.drew ?_ | refine Below.alloc ?_ (by first | omega | (with_reducible exact Below.size (by assumption)) | (simp; done) | (simp; omega)) _ | refine Below.setCell ?_ (by first | omega | (with_reducible exact Below.size (by assumption)) | (simp; done) | (simp; omega)) _ | refine below_step (by assumption) (by first | omega | (with_reducible exact Below.size (by assumption)) | (simp; done) | (simp; omega)) ?_)) hg1 (by simp; omega) (fun k hk => by cases hk; exact Nat.le_succ _)); have qb : ∀ i, w1.cell? ⟨w.heap.size, i, none⟩ = #[Value.int .i64 lo, .int .i64 hi][i]? := (fun i => (World.cell?_of_block (a := ⟨w.heap.size, i, none⟩) (hg1.block w.heap.size (by first | omega | (simp; done) | (simp; omega)) (by simp))).trans ((al2_0 rfl).2.1 i)); have k2 := (hown1.cellAt (i * 4 + 2) (by omega)).trans (flat_get (d := ⟨0, 0, 0, 0⟩) encP_len pp i 2 (by omega) (by omega)); have k3 := (hown1.cellAt (i * 4 + 3) (by omega)).trans (flat_get (d := ⟨0, 0, 0, 0⟩) encP_len pp i 3 (by omega) (by omega)); have fz := fun j => hown1.frozenAt j; clear hown1 hg1 hat; simp only [encP, List.getElem?_cons_succ, List.getElem?_cons_zero] at k2 k3))
  go_ret
  obtain ⟨A1, c1, e1, -, hs1⟩ := SlAt.of_own (d := ⟨0, 0, 0, 0⟩) encP_len HO1.out hl
  cases e1
  exact ⟨_, _, rfl, pps_with (pps_iff.2 hs1) hin k2 k3, by (repeat first | with_reducible assumption | with_reducible exact Below.refl _ _ | refine below_drewN ?_ _ | refine Below.drew ?_ | refine Below.alloc ?_ (by first | omega | (with_reducible exact Below.size (by assumption)) | (simp; done) | (simp; omega)) _ | refine Below.setCell ?_ (by first | omega | (with_reducible exact Below.size (by assumption)) | (simp; done) | (simp; omega)) _ | refine below_step (by assumption) (by first | omega | (with_reducible exact Below.size (by assumption)) | (simp; done) | (simp; omega)) ?_)⟩

end Go.Proofs.Ytoehifincdflhaa
