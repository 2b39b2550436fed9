/- slices.Sort and slices.Compact at []int, laid off the shelf (the rows lays189, lays20 are printed by wip/lay.py), on a slice of one's own (layer 1); Heats and Least of bars (layer 1); Fewest, Least and Plan in plain terms (layer 1). -/
import Derived.Test.YtdhlnlmhdacblaaChecked
import Derived.Test.YtdhlnlmhdacblaaTs01
import Derived.Test.YtdhlnlmhdacblaaTs02
import Derived.Shelf.Sort.Plain
import Derived.Ground.Names2Prog
import Derived.Sort.OwnSortedInts
import Derived.Shelf.Slices.CompactI
import Derived.Shelf.Slices.In.SortNone
import Derived.Handy
import Derived.Test.YtdhlnlmhdacblaaTs13
import Derived.Test.YtdhlnlmhdacblaaTs14
import Derived.Test.YtdhlnlmhdacblaaTs12
namespace Go.Proofs.Ytdhlnlmhdacblaa
open Go.RowKit Go.Shelf
open Go.Sort (grow)
set_option linter.unusedVariables false
set_option linter.unusedSimpArgs false

def lays189_ren : Go.Shelf.Ren := ⟨fun | 189 => 49 | 125 => 75 | 257 => 74 | 128 => 98 | 129 => 99 | 294 => 89 | 295 => 90 | 296 => 91 | 297 => 92 | 298 => 93 | 299 => 94 | 216 => 95 | 300 => 96 | 301 => 97 | 328 => 105 | 329 => 106 | 330 => 107 | 331 => 108 | 332 => 109 | 215 => 110 | 343 => 113 | n => n, fun | 28 => 36 | 3 => 3 | 46 => 109 | 0 => 0 | 51 => 130 | 53 => 132 | 4 => 4 | 183 => 140 | 182 => 139 | 131 => 145 | 5 => 5 | 9 => 9 | 218 => 149 | 222 => 153 | 228 => 156 | 229 => 80 | n => n, fun | n => n⟩
theorem lays189 : Go.Proofs.Lays.n189 Try.prog lays189_ren := {
  mixed := by kernel_rfl
  f125 := Try.func75.trans (congrArg some (by kernel_rfl))
  f128 := Try.func98.trans (congrArg some (by kernel_rfl))
  f129 := Try.func99.trans (congrArg some (by kernel_rfl))
  f189 := Try.func49.trans (congrArg some (by kernel_rfl))
  f215 := Try.func110.trans (congrArg some (by kernel_rfl))
  f216 := Try.func95.trans (congrArg some (by kernel_rfl))
  f257 := Try.func74.trans (congrArg some (by kernel_rfl))
  f294 := Try.func89.trans (congrArg some (by kernel_rfl))
  f295 := Try.func90.trans (congrArg some (by kernel_rfl))
  f296 := Try.func91.trans (congrArg some (by kernel_rfl))
  f297 := Try.func92.trans (congrArg some (by kernel_rfl))
  f298 := Try.func93.trans (congrArg some (by kernel_rfl))
  f299 := Try.func94.trans (congrArg some (by kernel_rfl))
  f300 := Try.func96.trans (congrArg some (by kernel_rfl))
  f301 := Try.func97.trans (congrArg some (by kernel_rfl))
  f328 := Try.func105.trans (congrArg some (by kernel_rfl))
  f329 := Try.func106.trans (congrArg some (by kernel_rfl))
  f330 := Try.func107.trans (congrArg some (by kernel_rfl))
  f331 := Try.func108.trans (congrArg some (by kernel_rfl))
  f332 := Try.func109.trans (congrArg some (by kernel_rfl))
  f343 := Try.func113.trans (congrArg some (by kernel_rfl))
  t0 := Try.underlying0
  a0 := Try.isAgg0
  z0 := Try.sizeOf0
  v0 := Try.zeroValue0
  t3 := Try.underlying3
  a3 := Try.isAgg3
  z3 := Try.sizeOf3
  v3 := Try.zeroValue3
  t4 := Try.underlying4
  a4 := Try.isAgg4
  z4 := Try.sizeOf4
  v4 := Try.zeroValue4
  t5 := Try.underlying5
  a5 := Try.isAgg5
  z5 := Try.sizeOf5
  v5 := Try.zeroValue5
  t9 := Try.underlying9
  a9 := Try.isAgg9
  z9 := Try.sizeOf9
  v9 := Try.zeroValue9
  t28 := Try.underlying36
  a28 := Try.isAgg36
  z28 := Try.sizeOf36
  v28 := Try.zeroValue36
  t46 := Try.underlying109
  a46 := Try.isAgg109
  z46 := Try.sizeOf109
  v46 := Try.zeroValue109
  t51 := Try.underlying130
  a51 := Try.isAgg130
  z51 := Try.sizeOf130
  v51 := Try.zeroValue130
  t53 := Try.underlying132
  a53 := Try.isAgg132
  z53 := Try.sizeOf132
  v53 := Try.zeroValue132
  t131 := Try.underlying145
  a131 := Try.isAgg145
  z131 := Try.sizeOf145
  v131 := Try.zeroValue145
  t182 := Try.underlying139
  a182 := Try.isAgg139
  z182 := Try.sizeOf139
  v182 := Try.zeroValue139
  t183 := Try.underlying140
  a183 := Try.isAgg140
  z183 := Try.sizeOf140
  v183 := Try.zeroValue140
  t218 := Try.underlying149
  a218 := Try.isAgg149
  z218 := Try.sizeOf149
  v218 := Try.zeroValue149
  t222 := Try.underlying153
  a222 := Try.isAgg153
  z222 := Try.sizeOf153
  v222 := Try.zeroValue153
  t228 := Try.underlying156
  a228 := Try.isAgg156
  z228 := Try.sizeOf156
  v228 := Try.zeroValue156
  t229 := Try.underlying80
  a229 := Try.isAgg80
  z229 := Try.sizeOf80
  v229 := Try.zeroValue80 }
def lays20_ren : Go.Shelf.Ren := ⟨fun | 20 => 50 | n => n, fun | 22 => 36 | 3 => 3 | 4 => 4 | 0 => 0 | n => n, fun | n => n⟩
theorem lays20 : Go.Proofs.Lays2.n20 Try.prog lays20_ren := {
  mixed := by kernel_rfl
  f20 := Try.func50.trans (congrArg some (by kernel_rfl))
  t0 := Try.underlying0
  a0 := Try.isAgg0
  z0 := Try.sizeOf0
  v0 := Try.zeroValue0
  t3 := Try.underlying3
  a3 := Try.isAgg3
  z3 := Try.sizeOf3
  v3 := Try.zeroValue3
  t4 := Try.underlying4
  a4 := Try.isAgg4
  z4 := Try.sizeOf4
  v4 := Try.zeroValue4
  t22 := Try.underlying36
  a22 := Try.isAgg36
  z22 := Try.sizeOf36
  v22 := Try.zeroValue36
  i3 := by kernel_rfl }
theorem encI_map (l : List Int) : l.flatMap encI = l.map (Value.int .i64) := by
  induction l with
  | nil => rfl
  | cons a l ih => simp [List.flatMap_cons, encI, ih]
def leI (x y : Int) : Bool := decide (x ≤ y)
/-- slices.Sort on a slice of one's own -/
theorem sort_own {w : World} {base : Nat} {T : TypeId} {v : Value} {zs : List Int} (h : w.ownsRow base T 1 v zs.length (zs.flatMap encI)) (hl : zs.length < 4611686018427387904) :
    Calls Try.prog 49 #[v] w fun e w' => e = .returned (.tuple #[]) ∧ w'.ownsRow base T 1 v zs.length ((zs.mergeSort leI).flatMap encI) ∧ w.grownBy w' v.ownBlock := by
  obtain ⟨h1, h2⟩ := h
  rcases h2 with ⟨h3, h0⟩ | ⟨g, cap, cur, rfl, hg, hh, r1, r2, r3, r4⟩
  · have hz : zs = [] := List.eq_nil_of_length_eq_zero h0
    subst hz
    subst h3
    refine (Any.slices_Sort_int_none lays189 none 0 w).mono ?_
    rintro e w' ⟨rfl, rfl⟩
    exact ⟨rfl, ⟨by simp, .inl ⟨rfl, rfl⟩⟩, World.grownBy.refl _ _⟩
  · rw [encI_map, Nat.mul_one] at r4
    have hH := holds_of_blockI hh r4
    have hgl : g < w.heap.size := (Array.getElem?_eq_some_iff.1 hh).1
    refine (Any.slices_Sort_int lays189 g 0 cap zs w hH hgl hl).mono ?_
    rintro e w' ⟨rfl, n, os, rfl⟩
    refine ⟨rfl, ?_, grownBy_sortedI _⟩
    have := ownsRow_sortedI (w := w) (base := base) (n := n) (e := T) (os := os) (cap := cap) (ss := zs) (ts := zs.mergeSort leI) (by simp) hg hh r1 r2 r3
    rw [encI_map, show (fun x y : Int => decide (x ≤ y)) = leI from rfl]
    simpa using this
/-- slices.Compact on a slice of one's own -/
theorem compact_own {w : World} {base : Nat} {T : TypeId} {v : Value} {zs : List Int} (h : w.ownsRow base T 1 v zs.length (zs.flatMap encI)) :
    Calls Try.prog 50 #[v] w fun e w' => ∃ A c, e = .returned (.slice A (Lib.compact zs).length c) ∧ w'.ownsRow base T 1 (.slice A (Lib.compact zs).length c) (Lib.compact zs).length ((Lib.compact zs).flatMap encI) ∧ w.grownBy w' v.ownBlock := by
  obtain ⟨h1, h2⟩ := h
  rcases h2 with ⟨h3, h0⟩ | ⟨g, cap, cur, rfl, hg, hh, r1, r2, r3, r4⟩
  · have hz : zs = [] := List.eq_nil_of_length_eq_zero h0
    subst hz
    subst h3
    refine (Any.slices_Compact_int_empty lays20 none 0 w).mono ?_
    rintro e w' ⟨rfl, rfl⟩
    exact ⟨none, 0, rfl, ⟨by simp [Lib.compact, Lib.compactUpTo], .inl ⟨rfl, by simp [Lib.compact, Lib.compactUpTo]⟩⟩, World.grownBy.refl _ _⟩
  · rw [encI_map, Nat.mul_one] at r4
    have hH := holds_of_blockI hh r4
    have hgl : g < w.heap.size := (Array.getElem?_eq_some_iff.1 hh).1
    have hcl : (Lib.compact zs).length ≤ zs.length := by
      unfold Lib.compact Lib.compactUpTo
      rw [List.length_map]
      exact Nat.le_trans (List.length_filter_le _ _) (by simp)
    have hm : maxLen ≤ 9223372036854775807 := by unfold maxLen; omega
    refine (Any.slices_Compact_int lays20 g 0 cap zs w hH (by omega) r1).mono ?_
    rintro e w' ⟨rfl, q, rfl⟩
    refine ⟨_, _, rfl, ?_, ?_⟩
    · have := ownsRow_sortedI (w := w) (base := base) (n := q) (e := T) (os := #[]) (cap := cap) (ss := zs) (ts := Lib.compact zs ++ List.replicate (zs.length - (Lib.compact zs).length) 0) (by simp; omega) hg hh r1 r2 r3
      rw [Go.Sort.grow_empty] at this
      obtain ⟨-, k⟩ := this
      rcases k with ⟨k1, -⟩ | ⟨g', cap', cur', k1, k2, k3, k4, k5, k6, k7⟩
      · cases k1
      · cases k1
        refine ⟨by rw [encI_map]; simp, .inr ⟨g, cap, cur', rfl, k2, k3, by omega, k5, k6, ?_⟩⟩
        rw [encI_map, Nat.mul_one]
        have := congrArg (List.take (Lib.compact zs).length) k7
        rw [List.take_take, Nat.mul_one, Nat.min_eq_left hcl] at this
        rw [this, List.map_append, List.take_append_of_le_length (by simp), List.take_of_length_le (by simp)]
    · have := grownBy_sortedI (w := w) (g := g) (n := q) (os := #[]) (Lib.compact zs ++ List.replicate (zs.length - (Lib.compact zs).length) 0).toArray
      rw [Go.Sort.grow_empty] at this
      exact this

theorem asc_ext : ∀ (a b : List Int), a.Pairwise (· < ·) → b.Pairwise (· < ·) → (∀ x, x ∈ a ↔ x ∈ b) → a = b
  | [], [], _, _, _ => rfl
  | [], y :: b, _, _, h => by have := (h y).2 (by simp); simp at this
  | x :: a, [], _, _, h => by have := (h x).1 (by simp); simp at this
  | x :: a, y :: b, ha, hb, h => by
    obtain ⟨ha1, ha2⟩ := List.pairwise_cons.1 ha
    obtain ⟨hb1, hb2⟩ := List.pairwise_cons.1 hb
    have hxy : x = y := by
      rcases List.mem_cons.1 ((h x).1 (by simp)) with e | e
      · exact e
      · rcases List.mem_cons.1 ((h y).2 (by simp)) with e' | e'
        · exact e'.symm
        · have := hb1 x e
          have := ha1 y e'
          omega
    subst hxy
    rw [asc_ext a b ha2 hb2 fun z => ?_]
    constructor
    · intro hz
      rcases List.mem_cons.1 ((h z).1 (by simp [hz])) with e | e
      · have := ha1 z hz; omega
      · exact e
    · intro hz
      rcases List.mem_cons.1 ((h z).2 (by simp [hz])) with e | e
      · have := hb1 z hz; omega
      · exact e
theorem cp_asc {zs : List Int} (h : zs.Pairwise (· ≤ ·)) : (Lib.compact zs).Pairwise (· < ·) ∧ ∀ v, v ∈ Lib.compact zs ↔ v ∈ zs := by
  have hle : ∀ i j, i ≤ j → j < zs.length → zs.toArray[i]! ≤ zs.toArray[j]! := fun i j hij hj => by
    rw [getElem!_pos _ i (by simp; omega), getElem!_pos _ j (by simpa using hj)]
    rcases Nat.lt_or_eq_of_le hij with h1 | rfl
    · have := List.pairwise_iff_getElem.1 h i j (by omega) hj h1
      simpa using this
    · exact Int.le_refl _
  unfold Lib.compact Lib.compactUpTo
  refine ⟨?_, fun v => ?_⟩
  · rw [List.pairwise_map]
    have h1 : ((List.range zs.length).filter (Lib.keeps zs.toArray)).Pairwise (· < ·) := List.Pairwise.filter _ List.pairwise_lt_range
    refine h1.imp_of_mem fun {i j} hi hj hij => ?_
    obtain ⟨hi1, -⟩ := List.mem_filter.1 hi
    obtain ⟨hj1, hj2⟩ := List.mem_filter.1 hj
    rw [List.mem_range] at hi1 hj1
    simp only [Lib.keeps, decide_eq_true_eq] at hj2
    have k1 := hle i (j - 1) (by omega) (by omega)
    have k2 := hle (j - 1) j (by omega) hj1
    rcases hj2 with e | e
    · omega
    · omega
  · rw [List.mem_map]
    constructor
    · rintro ⟨i, hi, rfl⟩
      have hi1 := List.mem_range.1 (List.mem_filter.1 hi).1
      rw [getElem!_pos _ i (by simpa using hi1)]
      simp
    · intro hv
      have key : ∀ n i, i ≤ n → i < zs.length → zs.toArray[i]! = v → ∃ a, a ∈ (List.range zs.length).filter (Lib.keeps zs.toArray) ∧ zs.toArray[a]! = v := by
        intro n
        induction n with
        | zero =>
          intro i hi hl he
          exact ⟨i, List.mem_filter.2 ⟨List.mem_range.2 hl, by simp [Lib.keeps]; omega⟩, he⟩
        | succ n ih =>
          intro i hi hl he
          by_cases hk : Lib.keeps zs.toArray i = true
          · exact ⟨i, List.mem_filter.2 ⟨List.mem_range.2 hl, hk⟩, he⟩
          · simp only [Lib.keeps, decide_eq_true_eq] at hk
            have h0 : i ≠ 0 := fun e => hk (.inl e)
            have h1 : zs.toArray[i]! = zs.toArray[i - 1]! := Classical.byContradiction fun e => hk (.inr e)
            exact ih (i - 1) (by omega) (by omega) (by rw [← h1]; exact he)
      obtain ⟨i, hi, rfl⟩ := List.getElem_of_mem hv
      exact key i i (Nat.le_refl _) hi (by rw [getElem!_pos _ i (by simpa using hi)]; simp)
theorem srt_asc (L : List Int) : (L.mergeSort leI).Pairwise (· ≤ ·) := by
  refine (List.pairwise_mergeSort (le := leI) ?_ ?_ L).imp fun {a b} h => by simpa [leI] using h
  · intro a b c; simp only [leI, decide_eq_true_eq]; omega
  · intro a b; simp only [leI, Bool.or_eq_true, decide_eq_true_eq]; omega
/-- what is left of a list, sorted and compacted -/
def srtC (L : List Int) : List Int := Lib.compact (L.mergeSort leI)
theorem srtC_asc (L : List Int) : (srtC L).Pairwise (· < ·) := (cp_asc (srt_asc L)).1
theorem srtC_mem {L : List Int} {v : Int} : v ∈ srtC L ↔ v ∈ L := by
  unfold srtC
  rw [(cp_asc (srt_asc L)).2 v, List.mem_mergeSort]
/-- the numbers below n of which q holds, in order -/
def uptoL (n : Nat) (q : Nat → Bool) : List Int := ((List.range n).filter q).map fun (k : Nat) => (k : Int)
theorem uptoL_asc (n : Nat) (q : Nat → Bool) : (uptoL n q).Pairwise (· < ·) := by
  unfold uptoL
  rw [List.pairwise_map]
  exact (List.Pairwise.filter q List.pairwise_lt_range).imp fun {a b} h => by omega
theorem uptoL_mem {n : Nat} {q : Nat → Bool} {v : Int} : v ∈ uptoL n q ↔ ∃ k : Nat, k < n ∧ q k = true ∧ v = (k : Int) := by
  unfold uptoL
  rw [List.mem_map]
  constructor
  · rintro ⟨k, hk, rfl⟩
    obtain ⟨h1, h2⟩ := List.mem_filter.1 hk
    exact ⟨k, List.mem_range.1 h1, h2, rfl⟩
  · rintro ⟨k, h1, h2, rfl⟩
    exact ⟨k, List.mem_filter.2 ⟨List.mem_range.2 h1, h2⟩, rfl⟩
theorem srtC_upto {n : Nat} {L : List Int} (h : ∀ v ∈ L, ∃ k : Nat, k < n ∧ v = (k : Int)) : srtC L = uptoL n fun k => decide ((k : Int) ∈ L) := by
  refine asc_ext _ _ (srtC_asc L) (uptoL_asc _ _) fun v => ?_
  rw [srtC_mem, uptoL_mem]
  constructor
  · intro hv
    obtain ⟨k, hk, rfl⟩ := h v hv
    exact ⟨k, hk, by simpa using hv, rfl⟩
  · rintro ⟨k, hk, hq, rfl⟩
    simpa using hq
theorem uptoL_len (n : Nat) (q : Nat → Bool) : (uptoL n q).length = (List.range n).countP q := by
  unfold uptoL; rw [List.length_map, List.countP_eq_length_filter]

end Go.Proofs.Ytdhlnlmhdacblaa

namespace Go.Proofs.Ytdhlnlmhdacblaa
open Go.RowKit
open Go.Sort (grow)
set_option linter.unusedVariables false
set_option linter.unusedSimpArgs false

def htL (bs : List Br) (L : List Int) : List Int := L.map fun b => (brAt bs b.toNat).heat
def mixL (bs : List Br) (L : List Int) (k : Nat) : List Int := htL bs (L.take k) ++ L.drop k
theorem mixL_len (bs : List Br) (L : List Int) (k : Nat) : (mixL bs L k).length = L.length := by simp [mixL, htL]; omega
theorem mixL_0 (bs : List Br) (L : List Int) : mixL bs L 0 = L := by simp [mixL, htL]
theorem mixL_all (bs : List Br) (L : List Int) : mixL bs L L.length = htL bs L := by simp [mixL]
theorem mixL_at {bs : List Br} {L : List Int} {k : Nat} (h : k < L.length) : iAt (mixL bs L k) k = iAt L k := by
  unfold iAt mixL htL
  rw [List.getD_eq_getElem?_getD, List.getD_eq_getElem?_getD, List.getElem?_append_right (by simp; omega)]
  simp
  rw [show k + (k - min k L.length) = k by omega]
theorem mixL_succ {bs : List Br} {L : List Int} {k : Nat} (h : k < L.length) : mixL bs L (k + 1) = (mixL bs L k).set k (brAt bs (iAt L k).toNat).heat := by
  have hk : iAt L k = L[k] := by
    unfold iAt
    rw [List.getD_eq_getElem?_getD, List.getElem?_eq_getElem h]; rfl
  rw [hk]
  have h1 : L.take (k + 1) = L.take k ++ [L[k]] := by rw [List.take_add_one, List.getElem?_eq_getElem h]; rfl
  have h2 : L.drop k = L[k] :: L.drop (k + 1) := List.drop_eq_getElem_cons h
  unfold mixL htL
  rw [h1, h2, List.map_append, List.append_assoc, List.set_append_right _ _ (by simp; omega)]
  have : k - (List.map (fun b => (brAt bs b.toNat).heat) (List.take k L)).length = 0 := by simp; omega
  rw [this]
  rfl
def heatsP (bs : List Br) (ps : List Pc) (kf wr piece : Int) : List Int := Lib.compact ((htL bs (ofP bs ps kf wr piece)).mergeSort leI)
theorem ofP_bar {bs : List Br} {ps : List Pc} {kf wr piece : Int} : ∀ v ∈ ofP bs ps kf wr piece, ∃ b : Nat, b < bs.length ∧ v = (b : Int) := by
  intro v hv
  unfold ofP at hv
  cases e : askE bs ps kf wr (wi piece 0 ((ps.length : Int) - 1)) == 0 <;> rw [e] at hv
  · simp at hv
  · simp only [cond_true, ofL, List.mem_map, List.mem_filter, List.mem_range] at hv
    obtain ⟨b, ⟨hb, -⟩, rfl⟩ := hv
    exact ⟨b, hb, rfl⟩
theorem ofP_len {bs : List Br} {ps : List Pc} {kf wr piece : Int} : (ofP bs ps kf wr piece).length ≤ bs.length := by
  unfold ofP
  cases askE bs ps kf wr (wi piece 0 ((ps.length : Int) - 1)) == 0
  · simp
  · exact ofL_len bs.length piece.toNat (swA bs ps kf wr) bs.length
theorem plF_len {nb m : Nat} : ∀ (T : List Sw) (o : List Int × Int), (∀ x ∈ T, x.of.length = m) → o.1.length ≤ m → (T.foldl (plF nb) o).1.length ≤ m := by
  intro T
  induction T with
  | nil => exact fun o _ h => h
  | cons x T ih =>
    intro o hx h
    refine ih _ (fun y hy => hx y (by simp [hy])) ?_
    unfold plF
    cases decide ((usB nb x : Int) < o.2)
    · exact h
    · simp only [cond_true]; rw [hx x (by simp)]; exact Nat.le_refl _
theorem planP_len {bs : List Br} {ps : List Pc} {kf wr : Int} : (planP bs ps kf wr).length ≤ ps.length := by
  unfold planP
  cases askE bs ps kf wr true == 0
  · simp
  · exact plF_len _ _ (fun x hx => swA_of_len hx) (by simp)
def leastP (bs : List Br) (ps : List Pc) (kf wr : Int) : Int := ((Lib.compact ((planP bs ps kf wr).mergeSort leI)).length : Int)
set_option maxRecDepth 100000 in
set_option maxHeartbeats 3200000 in
theorem least_c (Ab Ap : Option Addr) (nb cb np cp : Nat) (kf wrg : Int) (bs : List Br) (ms : List Pm) (ps : List Pc) (w : World) (h1 : nb ≤ 40) (h2 : np ≤ 40) (h3 : ∀ k, k < np → (pcAt ps k).hs.length ≤ 40) (HB : BrsAt w Ab nb bs) (HP : PcsAt w Ap np ms ps) :
    Calls Try.prog 25 #[.agg #[.slice Ab nb cb, .int .i64 kf, .slice Ap np cp, .int .i64 wrg]] w fun e w' => e = .returned (.tuple #[.int .i64 (leastP bs ps kf wrg), .int .i64 (askE bs ps kf wrg true)]) ∧ Below w.heap.size w w' := by
  have hpl := Lib.hid (fun W (hb : Below w.heap.size w W) => plan_c Ab Ap nb cb np cp kf wrg bs ms ps W h1 h2 h3 (HB.later hb) (HP.later hb))
  have hll := planP_len (bs := bs) (ps := ps) (kf := kf) (wr := wrg)
  rw [HP.pl] at hll
  obtain ⟨L, hL⟩ : ∃ L, planP bs ps kf wrg = L := ⟨_, rfl⟩
  have hhp : leastP bs ps kf wrg = ((Lib.compact (L.mergeSort leI)).length : Int) := by unfold leastP; rw [hL]
  rw [hL] at hll
  have HL := Lib.hid hL
  obtain ⟨z, hz⟩ : ∃ z, askE bs ps kf wrg true = z := ⟨_, rfl⟩
  have HZ := Lib.hid hz
  rw [hz, hhp]
  clear HB HP h3 hL hz hhp
  go_enter Try.func25, Try.ntmps25
  go_wp2_with fail
  refine (hpl.out _ (by (repeat first | with_reducible assumption | with_reducible exact Below.refl _ _ | (with_reducible refine Below.alloc ?_ ?side _; case side => (first | omega | (with_reducible exact Below.size (by assumption)) | (simp; done) | (simp; omega))) | (with_reducible refine Below.setCell ?_ ?side _; case side => (first | omega | (with_reducible exact Below.size (by assumption)) | (simp; done) | (simp; omega))) | with_reducible refine Below.drew ?_ | with_reducible refine below_drewN ?_ _ | (with_reducible refine below_step (by assumption) ?side ?_; case side => (first | omega | (with_reducible exact Below.size (by assumption)) | (simp; done) | (simp; omega)))))).mono ?_
  rintro e w1 ⟨A, c, rfl, ho, hb1⟩
  rw [HL.out] at ho ⊢
  rw [HZ.out]
  have BX : Below w.heap.size w w1 := by (repeat first | with_reducible assumption | with_reducible exact Below.refl _ _ | (with_reducible refine Below.alloc ?_ ?side _; case side => (first | omega | (with_reducible exact Below.size (by assumption)) | (simp; done) | (simp; omega))) | (with_reducible refine Below.setCell ?_ ?side _; case side => (first | omega | (with_reducible exact Below.size (by assumption)) | (simp; done) | (simp; omega))) | with_reducible refine Below.drew ?_ | with_reducible refine below_drewN ?_ _ | (with_reducible refine below_step (by assumption) ?side ?_; case side => (first | omega | (with_reducible exact Below.size (by assumption)) | (simp; done) | (simp; omega))))
  have hso := sort_own ho (by omega)
  have hge := own_ge ho
  simp only [World.size_alloc] at hge
  have hs1 := BX.size
  have z1 := hb1.size
  simp only [World.size_alloc] at z1
  obtain ⟨n, hn⟩ : ∃ n, L.length = n := ⟨_, rfl⟩
  rw [hn] at hso hge ⊢
  have hms : (L.mergeSort leI).length = n := by rw [List.length_mergeSort, hn]
  have HMS := Lib.hid hms
  replace hso := Lib.hid hso
  replace hge := Lib.hid hge
  clear ho hb1 hn hms
  go_wp2_with (go_at_call 49; refine hso.out.mono ?_; rintro e w3 ⟨rfl, ho3, hg3⟩)
  rw [← HMS.out] at ho3
  have hco := compact_own ho3
  rw [HMS.out] at hco
  have hb3 : Below (w.heap.size + 1) w1 w3 := Below.grown (Below.refl _ _) hg3 (by omega) hge.out
  have HC := Lib.hid hco
  have hge3 := own_ge ho3
  simp only [World.size_alloc] at hge3
  replace hge3 := Lib.hid hge3
  rw [HMS.out] at hge3
  clear hco ho3 hg3
  go_wp2_with (go_at_call 50; refine HC.out.mono ?_; rintro e w4 ⟨A4, c4, rfl, ho4, hg4⟩)
  have hb4 : Below (w.heap.size + 1) w3 w4 := Below.grown (Below.refl _ _) hg4 (by have := hb3.size; omega) hge3.out
  have hbw4 : Below w.heap.size w w4 := BX.trans ((hb3.trans hb4).mono (by omega))
  exact bodyPost_ret (v := .tuple #[.int .i64 ((Lib.compact (L.mergeSort leI)).length : Int), .int .i64 z]) (by simp [results, Try.results25, go_sem]) rfl ⟨rfl, hbw4⟩

end Go.Proofs.Ytdhlnlmhdacblaa

namespace Go.Proofs.Ytdhlnlmhdacblaa
open Go.RowKit
open Go.Sort (grow)
set_option linter.unusedVariables false
set_option linter.unusedSimpArgs false

def usL (nb : Nat) (l : List Nat) : Nat := (List.range nb).countP fun k => decide (0 < l.count k)
theorem usL_le (nb : Nat) (l : List Nat) : usL nb l ≤ nb := Nat.le_trans List.countP_le_length (by simp)
theorem usB_of {bs : List Br} {ps : List Pc} {kf : Int} {l : List Nat} : usB bs.length (swOf bs ps kf l) = usL bs.length l := by
  unfold usB usL
  refine List.countP_congr fun k hk => ?_
  have hk := List.mem_range.1 hk
  simp only [swOf, iAt_mapR hk, decide_eq_true_eq]
  omega
theorem lsF_fold : ∀ (L : List Sw) (m : Int), 0 ≤ m → (∀ x ∈ L, 0 ≤ x.wrong) →
    (L.foldl lsF m = m ∨ ∃ x ∈ L, x.wrong = L.foldl lsF m) ∧ L.foldl lsF m ≤ m ∧ 0 ≤ L.foldl lsF m ∧ ∀ x ∈ L, L.foldl lsF m ≤ x.wrong := by
  intro L
  induction L with
  | nil => intro m hm _; exact ⟨.inl rfl, Int.le_refl _, hm, fun x hx => by cases hx⟩
  | cons x L ih =>
    intro m hm hL
    have hx := hL x (by simp)
    have hL' : ∀ y ∈ L, 0 ≤ y.wrong := fun y hy => hL y (by simp [hy])
    simp only [List.foldl_cons]
    have h0 : decide (m < 0) = false := by simp; omega
    by_cases g : x.wrong < m
    · have e : lsF m x = x.wrong := by unfold lsF; rw [h0, decide_eq_true g]; rfl
      rw [e]
      obtain ⟨h1, h2, h3, h4⟩ := ih x.wrong hx hL'
      refine ⟨.inr ?_, by omega, h3, fun y hy => ?_⟩
      · rcases h1 with h1 | ⟨y, hy, h1⟩
        · exact ⟨x, by simp, h1.symm⟩
        · exact ⟨y, by simp [hy], h1⟩
      · rcases List.mem_cons.1 hy with rfl | hy
        · exact h2
        · exact h4 y hy
    · have e : lsF m x = m := by unfold lsF; rw [h0, decide_eq_false g]; rfl
      rw [e]
      obtain ⟨h1, h2, h3, h4⟩ := ih m hm hL'
      refine ⟨?_, h2, h3, fun y hy => ?_⟩
      · rcases h1 with h1 | ⟨y, hy, h1⟩
        · exact .inl h1
        · exact .inr ⟨y, by simp [hy], h1⟩
      · rcases List.mem_cons.1 hy with rfl | hy
        · omega
        · exact h4 y hy
theorem few_ok {bs : List Br} {ps : List Pc} {kf wr : Int} (h : ckS bs ps kf wr = true) :
    (fewP bs ps kf wr = (0, 3) ∧ trL bs ps kf 8 = []) ∨ ∃ r : Nat, fewP bs ps kf wr = ((r : Int), 0) ∧ (∃ l ∈ trL bs ps kf 8, wgB bs ps l = r) ∧ ∀ l ∈ trL bs ps kf 8, r ≤ wgB bs ps l := by
  unfold fewP
  rw [h, swA_ok h (by omega)]
  cases e : trL bs ps kf 8 with
  | nil => left; exact ⟨rfl, rfl⟩
  | cons l L =>
    right
    simp only [List.map_cons, List.foldl_cons, cond_true]
    have e0 : lsF (-1) (swOf bs ps kf l) = (wgB bs ps l : Int) := rfl
    rw [e0]
    obtain ⟨h1, h2, h3, h4⟩ := lsF_fold (L.map (swOf bs ps kf)) (wgB bs ps l : Int) (by omega) (fun x hx => by
      obtain ⟨m, -, rfl⟩ := List.mem_map.1 hx
      show 0 ≤ (wgB bs ps m : Int)
      omega)
    obtain ⟨r, hr⟩ := Int.eq_ofNat_of_zero_le h3
    rw [hr] at h1 h2 h4 ⊢
    have hd : decide ((r : Int) < 0) = false := by simp
    rw [hd]
    refine ⟨r, rfl, ?_, fun m hm => ?_⟩
    · rcases h1 with h1 | ⟨x, hx, h1⟩
      · exact ⟨l, by simp, by omega⟩
      · obtain ⟨m, hm, rfl⟩ := List.mem_map.1 hx
        have h1 : (wgB bs ps m : Int) = r := h1
        exact ⟨m, by simp [hm], by omega⟩
    · rcases List.mem_cons.1 hm with rfl | hm
      · omega
      · have h5 : (r : Int) ≤ (wgB bs ps m : Int) := h4 _ (List.mem_map.2 ⟨m, hm, rfl⟩)
        omega
theorem plF_fold {nb : Nat} : ∀ (L : List Sw) (o : List Int × Int),
    (L.foldl (plF nb) o = o ∨ ∃ x ∈ L, L.foldl (plF nb) o = (x.of, (usB nb x : Int))) ∧ (L.foldl (plF nb) o).2 ≤ o.2 ∧ ∀ x ∈ L, (L.foldl (plF nb) o).2 ≤ (usB nb x : Int) := by
  intro L
  induction L with
  | nil => intro o; exact ⟨.inl rfl, Int.le_refl _, fun x hx => by cases hx⟩
  | cons x L ih =>
    intro o
    simp only [List.foldl_cons]
    by_cases g : (usB nb x : Int) < o.2
    · have e : plF nb o x = (x.of, (usB nb x : Int)) := by unfold plF; rw [decide_eq_true g]; rfl
      rw [e]
      obtain ⟨h1, h2, h3⟩ := ih (x.of, (usB nb x : Int))
      refine ⟨.inr ?_, by simp only at h2; omega, fun y hy => ?_⟩
      · rcases h1 with h1 | ⟨y, hy, h1⟩
        · exact ⟨x, by simp, h1⟩
        · exact ⟨y, by simp [hy], h1⟩
      · rcases List.mem_cons.1 hy with rfl | hy
        · exact h2
        · exact h3 y hy
    · have e : plF nb o x = o := by unfold plF; rw [decide_eq_false g]; rfl
      rw [e]
      obtain ⟨h1, h2, h3⟩ := ih o
      refine ⟨?_, h2, fun y hy => ?_⟩
      · rcases h1 with h1 | ⟨y, hy, h1⟩
        · exact .inl h1
        · exact .inr ⟨y, by simp [hy], h1⟩
      · rcases List.mem_cons.1 hy with rfl | hy
        · omega
        · exact h3 y hy
theorem plan_ok {bs : List Br} {ps : List Pc} {kf wr : Int} (h : ckS bs ps kf wr = true) :
    (trL bs ps kf wr = [] ∧ planP bs ps kf wr = []) ∨ ∃ l, l ∈ trL bs ps kf wr ∧ planP bs ps kf wr = toI l ∧ ∀ m ∈ trL bs ps kf wr, usL bs.length l ≤ usL bs.length m := by
  obtain ⟨-, -, h4, h5, h6, h7⟩ := ckS_vals h
  unfold planP
  rw [askE_ok h, swA_ok h h5.1]
  by_cases e : trL bs ps kf wr = []
  · rw [e]; exact .inl ⟨rfl, rfl⟩
  · rw [if_neg e]
    right
    simp only [beq_self_eq_true, cond_true]
    obtain ⟨h1, h2, h3⟩ := plF_fold (nb := bs.length) ((trL bs ps kf wr).map (swOf bs ps kf)) ([], (bs.length : Int) + 1)
    obtain ⟨l0, hl0⟩ := List.exists_mem_of_ne_nil _ e
    have h3' : ∀ m ∈ trL bs ps kf wr, (((trL bs ps kf wr).map (swOf bs ps kf)).foldl (plF bs.length) ([], (bs.length : Int) + 1)).2 ≤ (usL bs.length m : Int) := fun m hm => by
      have := h3 _ (List.mem_map.2 ⟨m, hm, rfl⟩)
      rwa [usB_of] at this
    rcases h1 with h1 | ⟨x, hx, h1⟩
    · have := h3' l0 hl0
      rw [h1] at this
      have := usL_le bs.length l0
      simp only at *
      omega
    · obtain ⟨l, hl, rfl⟩ := List.mem_map.1 hx
      rw [h1] at h3' ⊢
      refine ⟨l, hl, rfl, fun m hm => ?_⟩
      have := h3' m hm
      rw [usB_of] at this
      simp only at this
      omega
theorem least_ok {bs : List Br} {ps : List Pc} {kf wr : Int} (h : ckS bs ps kf wr = true) :
    (trL bs ps kf wr = [] ∧ leastP bs ps kf wr = 0) ∨ ∃ l, l ∈ trL bs ps kf wr ∧ leastP bs ps kf wr = (usL bs.length l : Int) ∧ ∀ m ∈ trL bs ps kf wr, usL bs.length l ≤ usL bs.length m := by
  have e0 : leastP bs ps kf wr = ((srtC (planP bs ps kf wr)).length : Int) := rfl
  rw [e0]
  rcases plan_ok h with ⟨h1, h2⟩ | ⟨l, hl, h2, h3⟩
  · rw [h2]
    refine .inl ⟨h1, ?_⟩
    have : srtC [] = [] := List.eq_nil_iff_forall_not_mem.2 fun v hv => by have := srtC_mem.1 hv; cases this
    rw [this]; rfl
  · rw [h2]
    refine .inr ⟨l, hl, ?_, h3⟩
    have hb := (trL_mem.1 hl).1.2
    rw [srtC_upto (n := bs.length) (fun v hv => by
      obtain ⟨k, hk, rfl⟩ := List.mem_map.1 hv
      exact ⟨k, hb k hk, rfl⟩), uptoL_len]
    congr 1
    unfold usL
    refine List.countP_congr fun k _ => ?_
    simp only [decide_eq_true_eq, toI, List.mem_map, List.count_pos_iff]
    constructor
    · rintro ⟨j, hj, e⟩
      have : j = k := by omega
      rw [← this]; exact hj
    · exact fun h => ⟨k, h, rfl⟩

theorem smB_mono {b : Nat} : ∀ (ps ps' : List Pc) (l : List Nat), ps'.length = ps.length → (∀ k, k < ps.length → (pcAt ps' k).long ≤ (pcAt ps k).long) → smB ps' l b ≤ smB ps l b
  | [], [], l, _, _ => Int.le_refl _
  | q :: ps, q' :: ps', [], _, _ => by simp [smB]
  | q :: ps, q' :: ps', c :: l, h, hk => by
    have ih := smB_mono (b := b) ps ps' l (by simpa using h) (fun k hk' => hk (k + 1) (by simpa using hk'))
    have h0 : q'.long ≤ q.long := hk 0 (by simp)
    simp only [smB, List.zip_cons_cons, List.map_cons, List.sum_cons] at ih ⊢
    cases c == b <;> simp <;> omega
  | [], q :: ps', _, h, _ => by simp at h
  | q :: ps, [], _, h, _ => by simp at h
theorem wgB_eq {bs bs' : List Br} (hb : ∀ k, (brAt bs' k).heat = (brAt bs k).heat) : ∀ (ps ps' : List Pc) (l : List Nat), ps'.length = ps.length → (∀ k, k < ps.length → (pcAt ps' k).hs = (pcAt ps k).hs) → wgB bs' ps' l = wgB bs ps l
  | [], [], l, _, _ => by simp [wgB]
  | q :: ps, q' :: ps', [], _, _ => by simp [wgB]
  | q :: ps, q' :: ps', c :: l, h, hk => by
    have ih := wgB_eq hb ps ps' l (by simpa using h) (fun k hk' => hk (k + 1) (by simpa using hk'))
    have h0 : q'.hs = q.hs := hk 0 (by simp)
    simp only [wgB, List.zip_cons_cons, List.countP_cons] at ih ⊢
    rw [ih, h0, hb]
  | [], q :: ps', _, h, _ => by simp at h
  | q :: ps, [], _, h, _ => by simp at h
/-- what BarsLonger turns a store into -/
structure LongTo (bs : List Br) (ps : List Pc) (kf : Int) (bs' : List Br) (ps' : List Pc) (kf' : Int) : Prop where
  bl : bs'.length = bs.length
  pl : ps'.length = ps.length
  heat : ∀ k, (brAt bs' k).heat = (brAt bs k).heat
  long : ∀ k, k < bs.length → (brAt bs k).long ≤ (brAt bs' k).long
  hs : ∀ k, k < ps.length → (pcAt ps' k).hs = (pcAt ps k).hs
  short : ∀ k, k < ps.length → (pcAt ps' k).long ≤ (pcAt ps k).long
  kerf : kf' ≤ kf
section
variable {bs bs' : List Br} {ps ps' : List Pc} {kf kf' wr most : Int} {l : List Nat}
theorem LongTo.ok (H : LongTo bs ps kf bs' ps' kf') (h : okB bs ps kf most l = true) : okB bs' ps' kf' most l = true := by
  rw [okB_iff] at h ⊢
  refine ⟨fun b hb => ?_, by rw [wgB_eq H.heat ps ps' l H.pl H.hs]; exact h.2⟩
  rw [H.bl] at hb
  have h1 := h.1 b hb
  unfold rsB at h1 ⊢
  have h2 := smB_mono (b := b) ps ps' l H.pl H.short
  have h3 := H.long b hb
  have h4 : kf' * ((l.count b - 1 : Nat) : Int) ≤ kf * ((l.count b - 1 : Nat) : Int) := Int.mul_le_mul_of_nonneg_right H.kerf (by omega)
  omega
theorem LongTo.mem (H : LongTo bs ps kf bs' ps' kf') (h : l ∈ trL bs ps kf most) : l ∈ trL bs' ps' kf' most := by
  obtain ⟨⟨h1, h2⟩, h3⟩ := trL_mem.1 h
  exact trL_mem.2 ⟨⟨by rw [H.pl]; exact h1, by rw [H.bl]; exact h2⟩, H.ok h3⟩
/-- what BarsLonger asks -/
theorem longer_law (H : LongTo bs ps kf bs' ps' kf') (hck : ckS bs ps kf wr = true) (ho : ckS bs' ps' kf' wr = true) :
    ((askE bs ps kf wr true = 3 ∧ (askE bs' ps' kf' wr true = 0 ∨ askE bs' ps' kf' wr true = 3)) ∨
      (askE bs ps kf wr true = 0 ∧ askE bs' ps' kf' wr true = 0 ∧ manyR bs ps kf wr ≤ manyR bs' ps' kf' wr ∧ leastP bs' ps' kf' wr ≤ leastP bs ps kf wr)) ∧
    (((fewP bs ps kf wr).2 = 3 ∧ ((fewP bs' ps' kf' wr).2 = 0 ∨ (fewP bs' ps' kf' wr).2 = 3)) ∨
      ((fewP bs ps kf wr).2 = 0 ∧ (fewP bs' ps' kf' wr).2 = 0 ∧ (fewP bs' ps' kf' wr).1 ≤ (fewP bs ps kf wr).1)) := by
  constructor
  · rw [askE_ok hck, askE_ok ho]
    by_cases e : trL bs ps kf wr = []
    · rw [if_pos e]
      refine .inl ⟨rfl, ?_⟩
      split <;> simp
    · obtain ⟨l0, hl0⟩ := List.exists_mem_of_ne_nil _ e
      have e' : trL bs' ps' kf' wr ≠ [] := fun h => by
        have := H.mem hl0
        rw [h] at this
        cases this
      rw [if_neg e, if_neg e']
      refine .inr ⟨rfl, rfl, ?_, ?_⟩
      · rw [manyR_ok hck, manyR_ok ho]
        unfold trL
        rw [H.bl, H.pl, ← List.countP_eq_length_filter, ← List.countP_eq_length_filter]
        have := List.countP_mono_left (l := allL bs.length ps.length) (p := okB bs ps kf wr) (q := okB bs' ps' kf' wr) fun l _ h => H.ok h
        omega
      · rcases least_ok hck with ⟨h1, -⟩ | ⟨l, hl, h1, -⟩
        · exact absurd h1 e
        · rcases least_ok ho with ⟨h2, -⟩ | ⟨m, hm, h2, h3⟩
          · exact absurd h2 e'
          · have := h3 l (H.mem hl)
            rw [h1, h2]
            rw [H.bl] at this ⊢
            omega
  · rcases few_ok hck with ⟨h1, h2⟩ | ⟨r, h1, ⟨l, hl, h2⟩, -⟩
    · left
      rw [h1]
      refine ⟨rfl, ?_⟩
      rcases few_ok ho with ⟨h3, -⟩ | ⟨r, h3, -⟩
      · rw [h3]; exact .inr rfl
      · rw [h3]; exact .inl rfl
    · right
      rw [h1]
      rcases few_ok ho with ⟨h3, h4⟩ | ⟨r', h3, -, h4⟩
      · have := H.mem hl
        rw [h4] at this
        cases this
      · rw [h3]
        have := h4 l (H.mem hl)
        rw [wgB_eq H.heat ps ps' l H.pl H.hs] at this
        exact ⟨rfl, rfl, by simp only; omega⟩
end

end Go.Proofs.Ytdhlnlmhdacblaa
