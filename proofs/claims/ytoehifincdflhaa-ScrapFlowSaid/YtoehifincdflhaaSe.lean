/- sort.Search over a question that turns at most once. -/
import Derived.Shelf.Abstract
import Derived.Laws.EntriesVeiled
import Derived.Test.YtoehifincdflhaaChecked
import Derived.Test.YtoehifincdflhaaBase
namespace Go.Proofs.Ytoehifincdflhaa
open Go.RowKit
open Go.Sort (grow)
set_option linter.unusedVariables false

/-- the least of the first n at which p, or n -/
def leastN (n : Nat) (p : Nat → Bool) : Nat := ((List.range n).find? p).getD n
theorem leastN_eq {n : Nat} {p : Nat → Bool} {i : Nat} (hi : i ≤ n) (h0 : ∀ k, k < i → p k = false) (h1 : ∀ k, i ≤ k → k < n → p k = true) : leastN n p = i := by
  by_cases h : i < n
  · have := idxN_some h (h1 i (Nat.le_refl _) h) h0
    unfold idxN at this
    unfold leastN
    cases e : (List.range n).find? p with
    | none => rw [e] at this; simp at this
    | some k => rw [e] at this; simp at this; simp; omega
  · obtain rfl : i = n := by omega
    have : (List.range i).find? p = none := by simpa using h0
    simp [leastN, this]

theorem leastN_le (n : Nat) (p : Nat → Bool) : leastN n p ≤ n := by
  unfold leastN
  cases e : (List.range n).find? p with
  | none => simp
  | some k => have := List.mem_of_find?_eq_some e; simp at this; simp; omega

set_option maxHeartbeats 400000 in
theorem search_c (n g : Nat) (fst cap : Array Value) (p : Nat → Bool) (w : World) (hn : n ≤ 100000) (hm : ∀ a b, a ≤ b → b < n → p a = true → p b = true)
    (HE : ∀ args w, (callFunc g args).run Try.prog w = .ok (.enter g args) w)
    (HF : ∀ k, k < n → ∀ w', Below w.heap.size w w' → Calls Try.prog g (fst.push (.int .i64 k) ++ cap) w' fun e w'' => e = .returned (.bool (p k)) ∧ Below w'.heap.size w' w'') :
    Calls Try.prog 78 #[.int .i64 n, .func (.func g) fst cap] w fun e w' => e = .returned (.int .i64 (leastN n p)) ∧ Below w.heap.size w w' := by
  have HFI := Lib.hid HF
  have HM := Lib.hid hm
  clear HF hm
  go_enter Try.func78, Try.ntmps78
  go_wp2
  go_loopw [5, 6] (fun i j (wr : World) => ∃ a b : Nat, a ≤ b ∧ b ≤ n ∧ i = .int .i64 a ∧ j = .int .i64 b ∧ Hid ((∀ k, k < a → p k = false) ∧ (∀ k, b ≤ k → k < n → p k = true)) ∧ Below w.heap.size w wr) (fun i j _ => (intOf j).toNat - (intOf i).toNat)
  case atStart => exact ⟨0, n, by omega, by omega, rfl, rfl, ⟨fun j hj => absurd hj (by omega), fun j h1 h2 => absurd h2 (by omega)⟩, Below.refl _ _⟩
  case round =>
    obtain ⟨a, b, hab, hbn, rfl, rfl, H1, hb⟩ := hrel
    have zb := hb.size
    by_cases hlt : a < b
    · go_wp2_with fail
      have e : ((a : Int) + b) / 2 = (((a + b) / 2 : Nat) : Int) := by omega
      rw [e]
      obtain ⟨h, hh⟩ : ∃ h, (a + b) / 2 = h := ⟨_, rfl⟩
      have ha : a ≤ h := by omega
      have hb' : h < b := by omega
      rw [hh]
      clear e hh
      refine (HFI.out h (by omega) _ hb).mono ?_
      (rintro e w1 ⟨rfl, hb1⟩; obtain ⟨hc1, hf1⟩ := bcell hb1; have zs1 := hb1.size; (try simp at zs1))
      go_wp2
      · go_roundw
        case rel =>
          have hp : (!p h) = true := by assumption
          exact ⟨h + 1, b, by omega, hbn, by go_num, rfl, ⟨(fun k hk => by
            cases ek : p k with
            | false => rfl
            | true => (rw [HM.out k h (by omega) (by omega) ek] at hp; cases hp)), H1.out.2⟩, by (repeat first | with_reducible assumption | with_reducible exact Below.refl _ _ | refine below_drewN ?_ _ | refine Below.drew ?_ | refine Below.alloc ?_ (by first | omega | (with_reducible exact Below.size (by assumption)) | (simp; done) | (simp; omega)) _ | refine Below.setCell ?_ (by first | omega | (with_reducible exact Below.size (by assumption)) | (simp; done) | (simp; omega)) _ | refine below_step (by assumption) (by first | omega | (with_reducible exact Below.size (by assumption)) | (simp; done) | (simp; omega)) ?_)⟩
        case measure => simp [intOf]; omega
      · go_roundw
        case rel =>
          have hp : (!p h) = false := by assumption
          exact ⟨a, h, ha, by omega, rfl, rfl, ⟨H1.out.1, fun k h1 h2 => HM.out h k h1 h2 (by simpa using hp)⟩, by (repeat first | with_reducible assumption | with_reducible exact Below.refl _ _ | refine below_drewN ?_ _ | refine Below.drew ?_ | refine Below.alloc ?_ (by first | omega | (with_reducible exact Below.size (by assumption)) | (simp; done) | (simp; omega)) _ | refine Below.setCell ?_ (by first | omega | (with_reducible exact Below.size (by assumption)) | (simp; done) | (simp; omega)) _ | refine below_step (by assumption) (by first | omega | (with_reducible exact Below.size (by assumption)) | (simp; done) | (simp; omega)) ?_)⟩
        case measure => simp [intOf]; omega
    · obtain rfl : a = b := by omega
      go_wp2
      go_ret
      exact ⟨ret_int (by rw [leastN_eq hbn H1.out.1 H1.out.2]), hb⟩

end Go.Proofs.Ytoehifincdflhaa
