/- slices.Sort and slices.Compact at []int, laid off the shelf (the rows lays189, lays20 are printed by wip/lay.py), on a slice of one's own (layer 1). -/
import Derived.Test.YtdhlnlmhdacblaaChecked
import Derived.Test.YtdhlnlmhdacblaaTs01
import Derived.Test.YtdhlnlmhdacblaaTs02
import Derived.Shelf.Sort.Plain
import Derived.Ground.Names2Prog
import Derived.Sort.OwnSortedInts
import Derived.Shelf.Slices.CompactI
import Derived.Shelf.Slices.In.SortNone
namespace Go.Proofs.Ytdhlnlmhdacblaa
open Go.RowKit Go.Shelf
open Go.Sort (grow)
set_option linter.unusedVariables false
set_option linter.unusedSimpArgs false

def lays189_ren : Go.Shelf.Ren := ⟨fun | 189 => 49 | 125 => 75 | 257 => 74 | 128 => 98 | 129 => 99 | 294 => 89 | 295 => 90 | 296 => 91 | 297 => 92 | 298 => 93 | 299 => 94 | 216 => 95 | 300 => 96 | 301 => 97 | 328 => 105 | 329 => 106 | 330 => 107 | 331 => 108 | 332 => 109 | 215 => 110 | 343 => 113 | n => n, fun | 28 => 36 | 3 => 3 | 46 => 109 | 0 => 0 | 51 => 130 | 53 => 132 | 4 => 4 | 183 => 140 | 182 => 139 | 131 => 145 | 5 => 5 | 9 => 9 | 218 => 149 | 222 => 153 | 228 => 156 | 229 => 80 | n => n, fun | n => n⟩
theorem lays189 : Go.Proofs.Lays.n189 Try.prog lays189_ren := {
  mixed := by kernel_rfl
  f125 := Try.func75.trans (congrArg some (by kernel_rfl))
  f128 := Try.func98.trans (congrArg some (by kernel_rfl))
  f129 := Try.func99.trans (congrArg some (by kernel_rfl))
  f189 := Try.func49.trans (congrArg some (by kernel_rfl))
  f215 := Try.func110.trans (congrArg some (by kernel_rfl))
  f216 := Try.func95.trans (congrArg some (by kernel_rfl))
  f257 := Try.func74.trans (congrArg some (by kernel_rfl))
  f294 := Try.func89.trans (congrArg some (by kernel_rfl))
  f295 := Try.func90.trans (congrArg some (by kernel_rfl))
  f296 := Try.func91.trans (congrArg some (by kernel_rfl))
  f297 := Try.func92.trans (congrArg some (by kernel_rfl))
  f298 := Try.func93.trans (congrArg some (by kernel_rfl))
  f299 := Try.func94.trans (congrArg some (by kernel_rfl))
  f300 := Try.func96.trans (congrArg some (by kernel_rfl))
  f301 := Try.func97.trans (congrArg some (by kernel_rfl))
  f328 := Try.func105.trans (congrArg some (by kernel_rfl))
  f329 := Try.func106.trans (congrArg some (by kernel_rfl))
  f330 := Try.func107.trans (congrArg some (by kernel_rfl))
  f331 := Try.func108.trans (congrArg some (by kernel_rfl))
  f332 := Try.func109.trans (congrArg some (by kernel_rfl))
  f343 := Try.func113.trans (congrArg some (by kernel_rfl))
  t0 := Try.underlying0
  a0 := Try.isAgg0
  z0 := Try.sizeOf0
  v0 := Try.zeroValue0
  t3 := Try.underlying3
  a3 := Try.isAgg3
  z3 := Try.sizeOf3
  v3 := Try.zeroValue3
  t4 := Try.underlying4
  a4 := Try.isAgg4
  z4 := Try.sizeOf4
  v4 := Try.zeroValue4
  t5 := Try.underlying5
  a5 := Try.isAgg5
  z5 := Try.sizeOf5
  v5 := Try.zeroValue5
  t9 := Try.underlying9
  a9 := Try.isAgg9
  z9 := Try.sizeOf9
  v9 := Try.zeroValue9
  t28 := Try.underlying36
  a28 := Try.isAgg36
  z28 := Try.sizeOf36
  v28 := Try.zeroValue36
  t46 := Try.underlying109
  a46 := Try.isAgg109
  z46 := Try.sizeOf109
  v46 := Try.zeroValue109
  t51 := Try.underlying130
  a51 := Try.isAgg130
  z51 := Try.sizeOf130
  v51 := Try.zeroValue130
  t53 := Try.underlying132
  a53 := Try.isAgg132
  z53 := Try.sizeOf132
  v53 := Try.zeroValue132
  t131 := Try.underlying145
  a131 := Try.isAgg145
  z131 := Try.sizeOf145
  v131 := Try.zeroValue145
  t182 := Try.underlying139
  a182 := Try.isAgg139
  z182 := Try.sizeOf139
  v182 := Try.zeroValue139
  t183 := Try.underlying140
  a183 := Try.isAgg140
  z183 := Try.sizeOf140
  v183 := Try.zeroValue140
  t218 := Try.underlying149
  a218 := Try.isAgg149
  z218 := Try.sizeOf149
  v218 := Try.zeroValue149
  t222 := Try.underlying153
  a222 := Try.isAgg153
  z222 := Try.sizeOf153
  v222 := Try.zeroValue153
  t228 := Try.underlying156
  a228 := Try.isAgg156
  z228 := Try.sizeOf156
  v228 := Try.zeroValue156
  t229 := Try.underlying80
  a229 := Try.isAgg80
  z229 := Try.sizeOf80
  v229 := Try.zeroValue80 }
def lays20_ren : Go.Shelf.Ren := ⟨fun | 20 => 50 | n => n, fun | 22 => 36 | 3 => 3 | 4 => 4 | 0 => 0 | n => n, fun | n => n⟩
theorem lays20 : Go.Proofs.Lays2.n20 Try.prog lays20_ren := {
  mixed := by kernel_rfl
  f20 := Try.func50.trans (congrArg some (by kernel_rfl))
  t0 := Try.underlying0
  a0 := Try.isAgg0
  z0 := Try.sizeOf0
  v0 := Try.zeroValue0
  t3 := Try.underlying3
  a3 := Try.isAgg3
  z3 := Try.sizeOf3
  v3 := Try.zeroValue3
  t4 := Try.underlying4
  a4 := Try.isAgg4
  z4 := Try.sizeOf4
  v4 := Try.zeroValue4
  t22 := Try.underlying36
  a22 := Try.isAgg36
  z22 := Try.sizeOf36
  v22 := Try.zeroValue36
  i3 := by kernel_rfl }
theorem encI_map (l : List Int) : l.flatMap encI = l.map (Value.int .i64) := by
  induction l with
  | nil => rfl
  | cons a l ih => simp [List.flatMap_cons, encI, ih]
def leI (x y : Int) : Bool := decide (x ≤ y)
/-- slices.Sort on a slice of one's own -/
theorem sort_own {w : World} {base : Nat} {T : TypeId} {v : Value} {zs : List Int} (h : w.ownsRow base T 1 v zs.length (zs.flatMap encI)) (hl : zs.length < 4611686018427387904) :
    Calls Try.prog 49 #[v] w fun e w' => e = .returned (.tuple #[]) ∧ w'.ownsRow base T 1 v zs.length ((zs.mergeSort leI).flatMap encI) ∧ w.grownBy w' v.ownBlock := by
  obtain ⟨h1, h2⟩ := h
  rcases h2 with ⟨h3, h0⟩ | ⟨g, cap, cur, rfl, hg, hh, r1, r2, r3, r4⟩
  · have hz : zs = [] := List.eq_nil_of_length_eq_zero h0
    subst hz
    subst h3
    refine (Any.slices_Sort_int_none lays189 none 0 w).mono ?_
    rintro e w' ⟨rfl, rfl⟩
    exact ⟨rfl, ⟨by simp, .inl ⟨rfl, rfl⟩⟩, World.grownBy.refl _ _⟩
  · rw [encI_map, Nat.mul_one] at r4
    have hH := holds_of_blockI hh r4
    have hgl : g < w.heap.size := (Array.getElem?_eq_some_iff.1 hh).1
    refine (Any.slices_Sort_int lays189 g 0 cap zs w hH hgl hl).mono ?_
    rintro e w' ⟨rfl, n, os, rfl⟩
    refine ⟨rfl, ?_, grownBy_sortedI _⟩
    have := ownsRow_sortedI (w := w) (base := base) (n := n) (e := T) (os := os) (cap := cap) (ss := zs) (ts := zs.mergeSort leI) (by simp) hg hh r1 r2 r3
    rw [encI_map, show (fun x y : Int => decide (x ≤ y)) = leI from rfl]
    simpa using this
/-- slices.Compact on a slice of one's own -/
theorem compact_own {w : World} {base : Nat} {T : TypeId} {v : Value} {zs : List Int} (h : w.ownsRow base T 1 v zs.length (zs.flatMap encI)) :
    Calls Try.prog 50 #[v] w fun e w' => ∃ A c, e = .returned (.slice A (Lib.compact zs).length c) ∧ w'.ownsRow base T 1 (.slice A (Lib.compact zs).length c) (Lib.compact zs).length ((Lib.compact zs).flatMap encI) ∧ w.grownBy w' v.ownBlock := by
  obtain ⟨h1, h2⟩ := h
  rcases h2 with ⟨h3, h0⟩ | ⟨g, cap, cur, rfl, hg, hh, r1, r2, r3, r4⟩
  · have hz : zs = [] := List.eq_nil_of_length_eq_zero h0
    subst hz
    subst h3
    refine (Any.slices_Compact_int_empty lays20 none 0 w).mono ?_
    rintro e w' ⟨rfl, rfl⟩
    exact ⟨none, 0, rfl, ⟨by simp [Lib.compact, Lib.compactUpTo], .inl ⟨rfl, by simp [Lib.compact, Lib.compactUpTo]⟩⟩, World.grownBy.refl _ _⟩
  · rw [encI_map, Nat.mul_one] at r4
    have hH := holds_of_blockI hh r4
    have hgl : g < w.heap.size := (Array.getElem?_eq_some_iff.1 hh).1
    have hcl : (Lib.compact zs).length ≤ zs.length := by
      unfold Lib.compact Lib.compactUpTo
      rw [List.length_map]
      exact Nat.le_trans (List.length_filter_le _ _) (by simp)
    have hm : maxLen ≤ 9223372036854775807 := by unfold maxLen; omega
    refine (Any.slices_Compact_int lays20 g 0 cap zs w hH (by omega) r1).mono ?_
    rintro e w' ⟨rfl, q, rfl⟩
    refine ⟨_, _, rfl, ?_, ?_⟩
    · have := ownsRow_sortedI (w := w) (base := base) (n := q) (e := T) (os := #[]) (cap := cap) (ss := zs) (ts := Lib.compact zs ++ List.replicate (zs.length - (Lib.compact zs).length) 0) (by simp; omega) hg hh r1 r2 r3
      rw [Go.Sort.grow_empty] at this
      obtain ⟨-, k⟩ := this
      rcases k with ⟨k1, -⟩ | ⟨g', cap', cur', k1, k2, k3, k4, k5, k6, k7⟩
      · cases k1
      · cases k1
        refine ⟨by rw [encI_map]; simp, .inr ⟨g, cap, cur', rfl, k2, k3, by omega, k5, k6, ?_⟩⟩
        rw [encI_map, Nat.mul_one]
        have := congrArg (List.take (Lib.compact zs).length) k7
        rw [List.take_take, Nat.mul_one, Nat.min_eq_left hcl] at this
        rw [this, List.map_append, List.take_append_of_le_length (by simp), List.take_of_length_le (by simp)]
    · have := grownBy_sortedI (w := w) (g := g) (n := q) (os := #[]) (Lib.compact zs ++ List.replicate (zs.length - (Lib.compact zs).length) 0).toArray
      rw [Go.Sort.grow_empty] at this
      exact this

theorem asc_ext : ∀ (a b : List Int), a.Pairwise (· < ·) → b.Pairwise (· < ·) → (∀ x, x ∈ a ↔ x ∈ b) → a = b
  | [], [], _, _, _ => rfl
  | [], y :: b, _, _, h => by have := (h y).2 (by simp); simp at this
  | x :: a, [], _, _, h => by have := (h x).1 (by simp); simp at this
  | x :: a, y :: b, ha, hb, h => by
    obtain ⟨ha1, ha2⟩ := List.pairwise_cons.1 ha
    obtain ⟨hb1, hb2⟩ := List.pairwise_cons.1 hb
    have hxy : x = y := by
      rcases List.mem_cons.1 ((h x).1 (by simp)) with e | e
      · exact e
      · rcases List.mem_cons.1 ((h y).2 (by simp)) with e' | e'
        · exact e'.symm
        · have := hb1 x e
          have := ha1 y e'
          omega
    subst hxy
    rw [asc_ext a b ha2 hb2 fun z => ?_]
    constructor
    · intro hz
      rcases List.mem_cons.1 ((h z).1 (by simp [hz])) with e | e
      · have := ha1 z hz; omega
      · exact e
    · intro hz
      rcases List.mem_cons.1 ((h z).2 (by simp [hz])) with e | e
      · have := hb1 z hz; omega
      · exact e
theorem cp_asc {zs : List Int} (h : zs.Pairwise (· ≤ ·)) : (Lib.compact zs).Pairwise (· < ·) ∧ ∀ v, v ∈ Lib.compact zs ↔ v ∈ zs := by
  have hle : ∀ i j, i ≤ j → j < zs.length → zs.toArray[i]! ≤ zs.toArray[j]! := fun i j hij hj => by
    rw [getElem!_pos _ i (by simp; omega), getElem!_pos _ j (by simpa using hj)]
    rcases Nat.lt_or_eq_of_le hij with h1 | rfl
    · have := List.pairwise_iff_getElem.1 h i j (by omega) hj h1
      simpa using this
    · exact Int.le_refl _
  unfold Lib.compact Lib.compactUpTo
  refine ⟨?_, fun v => ?_⟩
  · rw [List.pairwise_map]
    have h1 : ((List.range zs.length).filter (Lib.keeps zs.toArray)).Pairwise (· < ·) := List.Pairwise.filter _ List.pairwise_lt_range
    refine h1.imp_of_mem fun {i j} hi hj hij => ?_
    obtain ⟨hi1, -⟩ := List.mem_filter.1 hi
    obtain ⟨hj1, hj2⟩ := List.mem_filter.1 hj
    rw [List.mem_range] at hi1 hj1
    simp only [Lib.keeps, decide_eq_true_eq] at hj2
    have k1 := hle i (j - 1) (by omega) (by omega)
    have k2 := hle (j - 1) j (by omega) hj1
    rcases hj2 with e | e
    · omega
    · omega
  · rw [List.mem_map]
    constructor
    · rintro ⟨i, hi, rfl⟩
      have hi1 := List.mem_range.1 (List.mem_filter.1 hi).1
      rw [getElem!_pos _ i (by simpa using hi1)]
      simp
    · intro hv
      have key : ∀ n i, i ≤ n → i < zs.length → zs.toArray[i]! = v → ∃ a, a ∈ (List.range zs.length).filter (Lib.keeps zs.toArray) ∧ zs.toArray[a]! = v := by
        intro n
        induction n with
        | zero =>
          intro i hi hl he
          exact ⟨i, List.mem_filter.2 ⟨List.mem_range.2 hl, by simp [Lib.keeps]; omega⟩, he⟩
        | succ n ih =>
          intro i hi hl he
          by_cases hk : Lib.keeps zs.toArray i = true
          · exact ⟨i, List.mem_filter.2 ⟨List.mem_range.2 hl, hk⟩, he⟩
          · simp only [Lib.keeps, decide_eq_true_eq] at hk
            have h0 : i ≠ 0 := fun e => hk (.inl e)
            have h1 : zs.toArray[i]! = zs.toArray[i - 1]! := Classical.byContradiction fun e => hk (.inr e)
            exact ih (i - 1) (by omega) (by omega) (by rw [← h1]; exact he)
      obtain ⟨i, hi, rfl⟩ := List.getElem_of_mem hv
      exact key i i (Nat.le_refl _) hi (by rw [getElem!_pos _ i (by simpa using hi)]; simp)
theorem srt_asc (L : List Int) : (L.mergeSort leI).Pairwise (· ≤ ·) := by
  refine (List.pairwise_mergeSort (le := leI) ?_ ?_ L).imp fun {a b} h => by simpa [leI] using h
  · intro a b c; simp only [leI, decide_eq_true_eq]; omega
  · intro a b; simp only [leI, Bool.or_eq_true, decide_eq_true_eq]; omega
/-- what is left of a list, sorted and compacted -/
def srtC (L : List Int) : List Int := Lib.compact (L.mergeSort leI)
theorem srtC_asc (L : List Int) : (srtC L).Pairwise (· < ·) := (cp_asc (srt_asc L)).1
theorem srtC_mem {L : List Int} {v : Int} : v ∈ srtC L ↔ v ∈ L := by
  unfold srtC
  rw [(cp_asc (srt_asc L)).2 v, List.mem_mergeSort]
/-- the numbers below n of which q holds, in order -/
def uptoL (n : Nat) (q : Nat → Bool) : List Int := ((List.range n).filter q).map fun (k : Nat) => (k : Int)
theorem uptoL_asc (n : Nat) (q : Nat → Bool) : (uptoL n q).Pairwise (· < ·) := by
  unfold uptoL
  rw [List.pairwise_map]
  exact (List.Pairwise.filter q List.pairwise_lt_range).imp fun {a b} h => by omega
theorem uptoL_mem {n : Nat} {q : Nat → Bool} {v : Int} : v ∈ uptoL n q ↔ ∃ k : Nat, k < n ∧ q k = true ∧ v = (k : Int) := by
  unfold uptoL
  rw [List.mem_map]
  constructor
  · rintro ⟨k, hk, rfl⟩
    obtain ⟨h1, h2⟩ := List.mem_filter.1 hk
    exact ⟨k, List.mem_range.1 h1, h2, rfl⟩
  · rintro ⟨k, h1, h2, rfl⟩
    exact ⟨k, List.mem_filter.2 ⟨List.mem_range.2 h1, h2⟩, rfl⟩
theorem srtC_upto {n : Nat} {L : List Int} (h : ∀ v ∈ L, ∃ k : Nat, k < n ∧ v = (k : Int)) : srtC L = uptoL n fun k => decide ((k : Int) ∈ L) := by
  refine asc_ext _ _ (srtC_asc L) (uptoL_asc _ _) fun v => ?_
  rw [srtC_mem, uptoL_mem]
  constructor
  · intro hv
    obtain ⟨k, hk, rfl⟩ := h v hv
    exact ⟨k, hk, by simpa using hv, rfl⟩
  · rintro ⟨k, hk, hq, rfl⟩
    simpa using hq
theorem uptoL_len (n : Nat) (q : Nat → Bool) : (uptoL n q).length = (List.range n).countP q := by
  unfold uptoL; rw [List.length_map, List.countP_eq_length_filter]

end Go.Proofs.Ytdhlnlmhdacblaa
