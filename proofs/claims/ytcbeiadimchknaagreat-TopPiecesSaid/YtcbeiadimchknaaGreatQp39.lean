/- groups of stretch (layer 4), walked. -/
import Derived.Test.YtcbeiadimchknaaGreatQp38
import Derived.Maps.OwnRows
import Derived.Maps.OwnOps
import Derived.Deep.DrawnRows
namespace Go.Proofs.YtcbeiadimchknaaGreat
open Go.RowKit Go.Maps Go.Sort Go.ChangeShapes
open Go.Sort (grow)
set_option linter.unusedVariables false
set_option linter.unusedSimpArgs false

theorem keysB_c (mb : Option Nat) (W : World) : Calls Tryz.prog 124 #[.map mb] W fun e w' => e = .returned (.func (.func 127) #[] #[.pointer (some ⟨W.heap.size, 0, none⟩)]) ∧ w' = W.alloc (.cells #[.map mb] 183) :=
  callsIn_wide.1 (AnyZI.keys_in keysB4 Fence.wide 5 trivial rfl mb W)
theorem sortedB_c {H : Type} (b nn : Nat) (D0 : DataW H) (R : Value → Option (DataW H × List MemPlace)) (w : World) (hown : w.ownsMap Tryz.prog 3 R b nn D0) (hmax : Maps.size D0 ≤ maxLen) (hbytes : Maps.size D0 * 8 ≤ 140737488355328) :
    Calls Tryz.prog 39 #[.func (.func 127) #[] #[.pointer (some ⟨w.heap.size, 0, none⟩)]] (w.alloc (.cells #[.map (some b)] 183)) fun e w' => ∃ (v : Value) (ss : List Int), e = .returned v ∧ ss.Perm (intKeys D0) ∧
      w'.ownsRow (w.heap.size + 1) 3 1 v ss.length ((ss.mergeSort (fun x y => decide (x ≤ y))).map encZ) ∧ Below (w.heap.size + 1) (w.alloc (.cells #[.map (some b)] 183)) w' := by
  have hbl := hown.lt
  have hseq : SeqGives Fence.wide 2 Tryz.prog 127 #[.pointer (some ⟨w.heap.size, 0, none⟩)] encZ (fun ss => ss.Perm (intKeys D0)) (Maps.size D0) (w.alloc (.cells #[.map (some b)] 183)) :=
    AnyZI.keys_gives (ρ := keysB4_ren) { keysB4 with } Fence.wide _ trivial rfl (by omega) w.heap.size b nn D0 _ (by simp) (by simp) (by
      obtain ⟨es, clock, hb, Ft, hs, hD⟩ := hown
      exact ⟨es, clock, (Below.heap_alloc _ _ b hbl).trans hb, Ft, hs, hD⟩)
  have cS := AnyZI.sorted_in sortedA4 Fence.wide 5 trivial trivial trivial trivial rfl (by omega) (sortsA4 _) (enters_of Tryz.func69 (by kernel_rfl) rfl) 127 #[.pointer (some ⟨w.heap.size, 0, none⟩)] trivial (enters_of Tryz.func127 (by kernel_rfl) rfl) _ _ hmax hbytes _ hseq
  change CallsIn _ _ Tryz.prog 39 _ _ _ at cS
  refine (callsIn_wide.1 cS).mono ?_
  rintro e w' ⟨v, ss, rfl, hS, hrow, hnil, hb⟩
  rw [World.size_alloc] at hrow hb
  exact ⟨v, ss, rfl, hS, hrow, hb⟩
/-- the keys of the groups, ascending -/
def ky4 (p : P4) (wh : Int) (u : W4) : List Int := ((List.range (p.res.length + 1)).filter fun n => (ln4 p).any fun l => wr4 p wh u l == n).map fun (n : Nat) => (n : Int)
theorem ky4_pair {p : P4} {wh : Int} {u : W4} : (ky4 p wh u).Pairwise (· < ·) := by
  unfold ky4
  rw [List.pairwise_map]
  exact (List.pairwise_lt_range.sublist List.filter_sublist).imp fun {x y} h => by omega
theorem ky4_mem {p : P4} {wh : Int} {u : W4} {G : DataW Unit} (hG : GrpD G (gj4 p wh u (ln4 p).length)) (x : Int) : x ∈ ky4 p wh u ↔ has G (.int .i64 x) = true := by
  rw [hG.has_ x]
  unfold ky4 gj4
  rw [List.take_length]
  simp only [List.mem_map, List.mem_filter, List.mem_range, List.any_eq_true, beq_iff_eq, Bool.not_eq_true', List.isEmpty_eq_false_iff_exists_mem]
  constructor
  · rintro ⟨n, ⟨hn, l, hl, hw⟩, rfl⟩
    exact ⟨l, hl, by rw [hw]⟩
  · rintro ⟨l, hl, hw⟩
    refine ⟨wr4 p wh u l, ⟨?_, l, hl, rfl⟩, hw⟩
    have := wk4_le (p := p) (wh := wh) (u := u) (len := l) (k := p.res.length)
    unfold wr4
    omega
theorem ky4_get {p : P4} {wh : Int} {u : W4} {k : Nat} (h : k < (ky4 p wh u).length) : ∃ n : Nat, (ky4 p wh u)[k]? = some (n : Int) ∧ (gr4 p wh u)[k]? = some (n, gj4 p wh u (ln4 p).length n) := by
  unfold ky4 at h ⊢
  unfold gr4
  rw [List.length_map] at h
  obtain ⟨L, hL⟩ : ∃ L, ((List.range (p.res.length + 1)).filter fun n => (ln4 p).any fun l => wr4 p wh u l == n) = L := ⟨_, rfl⟩
  rw [hL] at h ⊢
  refine ⟨L[k], ?_, ?_⟩
  · rw [List.getElem?_map, List.getElem?_eq_getElem h]; rfl
  · rw [List.getElem?_map, List.getElem?_eq_getElem h]
    simp only [Option.map_some, Option.some.injEq, Prod.mk.injEq, true_and]
    unfold gj4
    rw [List.take_length]
    refine List.filter_congr fun l _ => ?_
    rw [Bool.eq_iff_iff, beq_iff_eq, beq_iff_eq]
    omega
theorem gr4_len {p : P4} {wh : Int} {u : W4} : (gr4 p wh u).length = (ky4 p wh u).length := by unfold gr4 ky4; rw [List.length_map, List.length_map]
theorem ln4_len {p : P4} : (ln4 p).length = (p.ghi - p.glo + 1).toNat := ups_len
theorem encI_map4 (l : List Int) : l.flatMap encI = l.map (Value.int .i64) := by
  induction l with
  | nil => rfl
  | cons x l ih => rw [List.flatMap_cons, ih]; rfl
theorem sortedB4 {R : Value → Option (DataW Unit × List MemPlace)} (b nn : Nat) (G : DataW Unit) (p : P4) (wh : Int) (u : W4) (w : World) (hown : w.ownsMap Tryz.prog 3 R b nn G) (hG : GrpD G (gj4 p wh u (ln4 p).length)) (hn : nn ≤ 100000) :
    Calls Tryz.prog 39 #[.func (.func 127) #[] #[.pointer (some ⟨w.heap.size, 0, none⟩)]] (w.alloc (.cells #[.map (some b)] 183)) fun e w' => ∃ A c, e = .returned (.slice A (ky4 p wh u).length c) ∧ IntsAt w' A (ky4 p wh u).length (ky4 p wh u) ∧ Below w.heap.size w w' := by
  have hsz := hown.size_le
  refine (sortedB_c b nn G R w hown (by unfold maxLen; omega) (by omega)).mono ?_
  rintro e w' ⟨v, ss, rfl, hS, hrow, hb⟩
  have hk := keys_sorted hown Tryz.underlying3 hS ky4_pair (ky4_mem hG)
  have hl : ss.length = (ky4 p wh u).length := by rw [← hk, List.length_mergeSort]
  rw [hk, hl, show (encZ : Int → Value) = Value.int .i64 from rfl, ← encI_map4] at hrow
  obtain ⟨A, c, rfl, -, hsl⟩ := SlAt.of_own (d := (0 : Int)) encI_len hrow rfl
  exact ⟨A, c, rfl, ints_iff.2 hsl, ((Below.refl _ w).alloc (Nat.le_refl _) _).trans (hb.mono (Nat.le_succ _))⟩
theorem own_ints {w : World} {base : Nat} {e : TypeId} {v : Value} {zs : List Int} (h : w.ownsInts base e .i64 v zs) : w.ownsRow base e 1 v zs.length (zs.flatMap encI) := by
  rw [encI_map4]; exact h.1
set_option maxRecDepth 100000 in
set_option maxHeartbeats 3200000 in
theorem groups4_c (Ar : Option Addr) (nr cr : Nat) (Ad : Option Addr) (nd cd : Nat) (p : P4) (ok : Ok4 nr nd p) (wh : Int) (u : W4) (hu : OkW u) (w : World) (HM : MemP Ar nr Ad nd p w) :
    Calls Tryz.prog 113 #[.agg #[.int .i64 p.ir, .int .i64 p.glo, .int .i64 p.ghi, .slice Ar nr cr, .slice Ad nd cd, .int .i64 p.wr], .int .i64 wh, .agg #[.int .i64 u.w0, .int .i64 u.w1, .int .i64 u.w2, .int .i64 u.w3]] w (Grp4 w (gr4 p wh u)) := by
  have HFI := Lib.hid (fun V (hV : Below w.heap.size w V) => fits4_c Ar nr cr Ad nd cd p ok wh u hu V (HM.later hV))
  have hg := ok.g
  have hnd8 := ok.nd8
  have hld := ok.ld
  have hmm := @run_makeMap Tryz.prog
  obtain ⟨glo, hglo⟩ : ∃ g, p.glo = g := ⟨_, rfl⟩
  obtain ⟨ghi, hghi⟩ : ∃ g, p.ghi = g := ⟨_, rfl⟩
  have HGL := Lib.hid hglo
  have HGH := Lib.hid hghi
  unfold Fit4 at HFI
  rw [hglo, hghi] at hg HFI ⊢
  clear HM ok hu hglo hghi
  go_enter Tryz.func113, Tryz.ntmps113
  go_upto_region 1 with (fail)
  go_name_world X hX
  have BX : Below w.heap.size w X := (al2 hX).1
  have zX := (al2 hX).2
  have HB0 : Hid (Blk X w.heap.size 96 #[.int .i64 p.ir, .int .i64 glo, .int .i64 ghi, .slice Ar nr cr, .slice Ad nd cd, .int .i64 p.wr]) := by rw [← hX]; exact (Blk.new w _ _).alloc _
  have q0 := (al2_0 hX).2.1
  have l0 := (al2_0 hX).1
  have q1 := (al2_1 hX).2.1
  have l1 := (al2_1 hX).1
  have ZX := Lib.hid zX
  clear hX zX
  go_upto_region 3 with (go_at_call 123; refine (HFI.out X BX).mono ?_; rintro e w1 ⟨g, n, D, rfl, hg1, hn, hD, hF, hb1⟩)
  go_name_world Y hY
  have zY : Y.heap.size = w1.heap.size + 1 := by rw [← hY]; simp
  have BY : Below w1.heap.size w1 Y := by rw [← hY]; (repeat first | with_reducible assumption | with_reducible exact Below.refl _ _ | (with_reducible refine Below.alloc ?_ ?side _; case side => (first | omega | (with_reducible exact Below.size (by assumption)) | (simp; done) | (simp; omega))) | (with_reducible refine Below.setCell ?_ ?side _; case side => (first | omega | (with_reducible exact Below.size (by assumption)) | (simp; done) | (simp; omega))) | with_reducible refine Below.drew ?_ | with_reducible refine below_drewN ?_ _ | (with_reducible refine below_step (by assumption) ?side ?_; case side => (first | omega | (with_reducible exact Below.size (by assumption)) | (simp; done) | (simp; omega))))
  have hgl := hD.lt
  have z1 := hb1.size
  have HD : Hid (Y.ownsMap Tryz.prog 3 (plainElem (H := Unit) Tryz.prog 3) g n D) := Lib.hid (ownsMap_of_block (BY.block g hgl) hD)
  have HFF := Lib.hid hF
  have HOG : Hid (Y.ownsGroups (H := Unit) Tryz.prog 3 (w1.heap.size + 1) 3 .i64 w1.heap.size 0 (.map [])) := by rw [← hY]; exact Lib.hid (World.ownsGroups_made w1 _ _ _ _)
  have HBY : Hid (Blk Y w.heap.size 96 #[.int .i64 p.ir, .int .i64 glo, .int .i64 ghi, .slice Ar nr cr, .slice Ad nd cd, .int .i64 p.wr]) := Lib.hid ((HB0.out.below hb1 l0).below BY (by omega))
  have HWY : Hid (Below w.heap.size w Y) := Lib.hid ((BX.trans (hb1.mono BX.size)).trans (BY.mono (by have := BX.size; omega)))
  have qY := HBY.out.cell
  have lY : w.heap.size < Y.heap.size := by omega
  have zWX := BX.size
  have ZY := Lib.hid zY
  have hgY : g < Y.heap.size := by omega
  have h1Y : w1.heap.size < Y.heap.size := by omega
  have hXw : w.heap.size < w1.heap.size := by omega
  clear hY hD hF hb1 hmm q0 q1 zY
  go_wp2_with fail
  go_loopw [9] (fun i (wr : World) => ∃ j : Nat, glo + j ≤ ghi + 1 ∧ i = .int .i64 (glo + j) ∧ Hid (Off (fun b => b = w1.heap.size) Y.heap.size Y wr) ∧ Hid (∃ G, wr.ownsGroups (H := Unit) Tryz.prog 3 (w1.heap.size + 1) 3 .i64 w1.heap.size j G ∧ GrpD G (gj4 p wh u j))) (fun i _ => (ghi + 1 - intOf i).toNat)
  case atStart => exact ⟨0, by omega, by simp, Lib.hid .refl, Lib.hid ⟨_, HOG.out, GrpD.made.congr gj4_zero⟩⟩
  case round =>
    obtain ⟨j, hj, rfl, HOr, HGr⟩ := hrel
    have zr := HOr.out.size
    have c0 := (HOr.out.blk HBY.out (by omega) (by omega)).cell
    have lr0 : w.heap.size < wr.heap.size := by omega
    by_cases hle : glo + j ≤ ghi
    · have hqB : decide (glo + (j : Int) ≤ ghi) = true := decide_eq_true hle
      obtain ⟨ln, hln⟩ : ∃ x, glo + (j : Int) = x := ⟨_, rfl⟩
      rw [hln] at hqB ⊢
      have hlb : 1 ≤ ln ∧ ln ≤ 99999 ∧ ln ≤ ghi := by omega
      have hjb : j ≤ 99999 := by omega
      have HLN := Lib.hid hln
      have v1 : IntKind.i64.wrap (ln + 1) = ln + 1 := IntWalk.i64_in _ (by omega)
      obtain ⟨G, hG1, hG2⟩ := HGr.out
      have HG2 := Lib.hid hG2
      -- the look-up in the map of numbers
      have hDr := ownsMap_of_block (HOr.out.same g hgY (by omega)) HD.out
      obtain ⟨c, hc⟩ : ∃ c, wr4 p wh u ln = c := ⟨_, rfl⟩
      have hcb : c ≤ 8 := by
        have := wk4_le (p := p) (wh := wh) (u := u) (len := ln) (k := p.res.length)
        unfold wr4 at hc; omega
      obtain ⟨c', hrun, hat, -⟩ := hDr.lookup_int keyed3 Tryz.underlying181 Tryz.underlying3 (zero3i _) (key3 (x := ln) (by omega))
      have hcc : c' = c := by
        have h1 := HFF.out ln (by omega) (by omega)
        rw [hat] at h1
        simp only at h1
        rw [if_pos (by omega), hc] at h1
        injection h1 with h1
        injection h1 with h1
      subst hcc
      have HRF : Hid (∀ W9 : World, W9.heap[g]? = wr.heap[g]? → (Instr.lookup 181 (.map (some g)) (.int .i64 ln) false).run Tryz.prog W9 = .ok (.int .i64 (c : Nat)) W9) := Lib.hid (fun W9 h9 => by
        obtain ⟨es, clock, e1, e2, -⟩ := hDr
        exact look_same keyed3 Tryz.underlying181 zero3i e2 e1 h9 (key3 (x := ln) (by omega)) hrun)
      -- the look-up in the map of lists
      obtain ⟨v, zs, hrunB, hatB, hoi, hzl, hback⟩ := hG1.at keyed3 Tryz.underlying183 (zeroS4 _) (by unfold maxLen; omega) (key3 (x := (c : Nat)) (by omega))
      have HRB : Hid (∀ W9 : World, W9.heap[w1.heap.size]? = wr.heap[w1.heap.size]? → (Instr.lookup 183 (.map (some w1.heap.size)) (.int .i64 (c : Nat)) false).run Tryz.prog W9 = .ok v W9) := Lib.hid (fun W9 h9 => by
        obtain ⟨es, clock, e1, e2, -⟩ := hG1
        exact look_same keyed3 Tryz.underlying183 zeroS4 e2 e1 h9 (key3 (x := (c : Nat)) (by omega)) hrunB)
      have HZS := Lib.hid (hG2.get hatB hoi)
      have HOI := Lib.hid hoi
      have HBK := Lib.hid hback
      have HC := Lib.hid hc
      have hvl := hoi.1.lt
      clear hln hj hle hG2 hDr hrun hat hrunB hatB hoi hback hc hG1 HGr
      go_upto_region 6 with (fail)
      have hS : wr.drew.heap[g]? = wr.heap[g]? ∧ wr.drew.heap[w1.heap.size]? = wr.heap[w1.heap.size]? := ⟨rfl, rfl⟩
      refine wp_region_L (by kernel_rfl) (fun W' => W'.heap[g]? = wr.heap[g]? ∧ W'.heap[w1.heap.size]? = wr.heap[w1.heap.size]?) 12 ?_
      refine wpAnyL_take (i := 0) (v := ?_) rfl (by kernel_rfl) (by kernel_rfl) (by kernel_rfl) (by kernel_rfl) (fun _ _ _ h => h) hS (Or.inl ⟨by rfl, ?_⟩) ?_
      rotate_left 1
      · intro w9 hw9
        have hrF := HRF.out w9 hw9.1
        have hrB := HRB.out w9 hw9.2
        go_simp
        try with_reducible rfl
      simp only [List.getElem_toArray, List.getElem_cons_zero, Act.put, List.setIfInBounds_toArray, List.set_cons_zero, List.set_cons_succ]
      refine wpAnyL_take (i := 1) (v := ?_) rfl (by kernel_rfl) (by kernel_rfl) (by kernel_rfl) (by kernel_rfl) (fun _ _ _ h => h) hS (Or.inl ⟨by rfl, ?_⟩) ?_
      rotate_left 1
      · intro w9 hw9
        have hrF := HRF.out w9 hw9.1
        have hrB := HRB.out w9 hw9.2
        go_simp
        try with_reducible rfl
      simp only [List.getElem_toArray, List.getElem_cons_zero, List.getElem_cons_succ, Act.put, List.setIfInBounds_toArray, List.set_cons_zero, List.set_cons_succ]
      refine wpAnyL_take (i := 2) (v := ?_) rfl (by kernel_rfl) (by kernel_rfl) (by kernel_rfl) (by kernel_rfl) (fun _ _ _ h => h) hS (Or.inl ⟨by rfl, ?_⟩) ?_
      rotate_left 1
      · intro w9 hw9
        have hrF := HRF.out w9 hw9.1
        have hrB := HRB.out w9 hw9.2
        go_simp
        try with_reducible rfl
      simp only [List.getElem_toArray, List.getElem_cons_zero, List.getElem_cons_succ, Act.put, List.setIfInBounds_toArray, List.set_cons_zero, List.set_cons_succ]
      refine wpAnyL_take (i := 3) (v := ?_) rfl (by kernel_rfl) (by kernel_rfl) (by kernel_rfl) (by kernel_rfl) (fun _ _ _ h => h) hS (Or.inl ⟨by rfl, ?_⟩) ?_
      rotate_left 1
      · intro w9 hw9
        have hrF := HRF.out w9 hw9.1
        have hrB := HRB.out w9 hw9.2
        go_simp
        try with_reducible rfl
      simp only [List.getElem_toArray, List.getElem_cons_zero, List.getElem_cons_succ, Act.put, List.setIfInBounds_toArray, List.set_cons_zero, List.set_cons_succ]
      refine wpAnyL_take (i := 4) (v := ?_) rfl (by kernel_rfl) (by kernel_rfl) (by kernel_rfl) (by kernel_rfl) (fun _ _ _ h => h) hS (Or.inl ⟨by rfl, ?_⟩) ?_
      rotate_left 1
      · intro w9 hw9
        have hrF := HRF.out w9 hw9.1
        have hrB := HRB.out w9 hw9.2
        go_simp
        try with_reducible rfl
      simp only [List.getElem_toArray, List.getElem_cons_zero, List.getElem_cons_succ, Act.put, List.setIfInBounds_toArray, List.set_cons_zero, List.set_cons_succ]
      refine wpAnyL_take (i := 5) (v := ?_) rfl (by kernel_rfl) (by kernel_rfl) (by kernel_rfl) (by kernel_rfl) (fun _ _ _ h => h) hS (Or.inl ⟨by rfl, ?_⟩) ?_
      rotate_left 1
      · intro w9 hw9
        have hrF := HRF.out w9 hw9.1
        have hrB := HRB.out w9 hw9.2
        go_simp
        try with_reducible rfl
      simp only [List.getElem_toArray, List.getElem_cons_zero, List.getElem_cons_succ, Act.put, List.setIfInBounds_toArray, List.set_cons_zero, List.set_cons_succ]
      refine wpAnyL_take (i := 6) (v := ?_) rfl (by kernel_rfl) (by kernel_rfl) (by kernel_rfl) (by kernel_rfl) (fun _ _ _ h => h) hS (Or.inl ⟨by rfl, ?_⟩) ?_
      rotate_left 1
      · intro w9 hw9
        have hrF := HRF.out w9 hw9.1
        have hrB := HRB.out w9 hw9.2
        go_simp
        try with_reducible rfl
      simp only [List.getElem_toArray, List.getElem_cons_zero, List.getElem_cons_succ, Act.put, List.setIfInBounds_toArray, List.set_cons_zero, List.set_cons_succ]
      refine wpAnyL_take (i := 7) (v := ?_) rfl (by kernel_rfl) (by kernel_rfl) (by kernel_rfl) (by kernel_rfl) (fun _ _ _ h => h) hS (Or.inl ⟨by rfl, ?_⟩) ?_
      rotate_left 1
      · intro w9 hw9
        have hrF := HRF.out w9 hw9.1
        have hrB := HRB.out w9 hw9.2
        go_simp
        try with_reducible rfl
      simp only [List.getElem_toArray, List.getElem_cons_zero, List.getElem_cons_succ, Act.put, List.setIfInBounds_toArray, List.set_cons_zero, List.set_cons_succ]
      refine wpAnyL_take (i := 8) (v := ?_) rfl (by kernel_rfl) (by kernel_rfl) (by kernel_rfl) (by kernel_rfl) (fun _ _ _ h => h) hS (Or.inl ⟨by rfl, ?_⟩) ?_
      rotate_left 1
      · intro w9 hw9
        have hrF := HRF.out w9 hw9.1
        have hrB := HRB.out w9 hw9.2
        go_simp
        try with_reducible rfl
      simp only [List.getElem_toArray, List.getElem_cons_zero, List.getElem_cons_succ, Act.put, List.setIfInBounds_toArray, List.set_cons_zero, List.set_cons_succ]
      refine wpAnyL_take (i := 9) (v := ?_) rfl (by kernel_rfl) (by kernel_rfl) (by kernel_rfl) (by kernel_rfl) (fun _ _ _ h => h) hS (Or.inl ⟨by rfl, ?_⟩) ?_
      rotate_left 1
      · intro w9 hw9
        have hrF := HRF.out w9 hw9.1
        have hrB := HRB.out w9 hw9.2
        go_simp
        try with_reducible rfl
      simp only [List.getElem_toArray, List.getElem_cons_zero, List.getElem_cons_succ, Act.put, List.setIfInBounds_toArray, List.set_cons_zero, List.set_cons_succ]
      refine wpAnyL_one (i := 10) (by kernel_rfl) rfl (fun K hK => ?_)
      go_simp
      refine hK.out _ _ (fun _ => ⟨Below.heap_alloc _ _ _ (by show g < wr.heap.size; omega), Below.heap_alloc _ _ _ (by show w1.heap.size < wr.heap.size; omega)⟩) (fun hS' => ?_)
      clear hK K
      refine wpAnyL_one (i := 11) (by kernel_rfl) rfl (fun K hK => ?_)
      refine step_append_T _ (d := (0 : Int)) rfl (.tmp 38) (.tmp 40) _ rfl (w1.heap.size + 1) _ 1 8 int4E encI_len encI_one v v.ownBlock zs.length zs rfl rfl (own_below (own_ints HOI.out) (by (repeat first | with_reducible assumption | with_reducible exact Below.refl _ _ | (with_reducible refine Below.alloc ?_ ?side _; case side => (first | omega | (with_reducible exact Below.size (by assumption)) | (simp; done) | (simp; omega))) | (with_reducible refine Below.setCell ?_ ?side _; case side => (first | omega | (with_reducible exact Below.size (by assumption)) | (simp; done) | (simp; omega))) | with_reducible refine Below.drew ?_ | with_reducible refine below_drewN ?_ _ | (with_reducible refine below_step (by assumption) ?side ?_; case side => (first | omega | (with_reducible exact Below.size (by assumption)) | (simp; done) | (simp; omega)))))) _ 1 _ [ln] rfl (sl_new encI_len (by first | rfl | simp) rfl rfl) (by omega) (by go_size) (fun v' w9 ho9 hg9 ha9 => ?_)
      have hg9' : (wr.alloc (.cells #[.int .i64 ln] 3)).grownBy w9 v.ownBlock := ⟨hg9.os, hg9.tape, hg9.output, hg9.size, hg9.block⟩
      have hall : wr.grownBy w9 v.ownBlock := (World.grownBy_alloc wr _ _).trans hg9'
      have hown9 : w9.ownsInts (w1.heap.size + 1) 3 .i64 v' (zs ++ [ln]) := HOI.out.appended (by rw [encI_map4, List.map_append] at ho9; exact ho9) (WalkArith.wf_i64 (by omega))
      obtain ⟨w2, hrunU, hown2, hgrow2⟩ := HBK.out w9 v' (zs ++ [ln]) hall hown9 (by simp; omega) (ha9.imp id fun h => ⟨_, h, by simp [World.drew]⟩)
      have e1 : w9.heap[g]? = wr.heap[g]? := hall.block g (by omega) (fun e => by have := hvl g e.symm; omega)
      have e2 : w9.heap[w1.heap.size]? = wr.heap[w1.heap.size]? := hall.block _ (by omega) (fun e => by have := hvl _ e.symm; omega)
      have HALL := Lib.hid hall
      have HG2' := Lib.hid hgrow2
      have HO2 := Lib.hid hown2
      have HO9 := Lib.hid hown9
      clear hall hown9 ho9 hg9 hg9' ha9 hgrow2 hown2 hS'
      refine hK.out _ _ (fun _ => ⟨e1, e2⟩) (fun hS' => ?_)
      clear hK K hS' e1 e2 hS
      simp only [List.getElem_toArray, List.getElem_cons_zero, List.getElem_cons_succ, Act.put, List.setIfInBounds_toArray, List.set_cons_zero, List.set_cons_succ]
      refine wpAnyL_one (i := 12) (by kernel_rfl) rfl (fun K hK => ?_)
      go_simp
      refine hK.out _ _ (fun h => absurd rfl h) (fun _ => ?_)
      refine wpAnyL_done (by kernel_rfl) ?_ _
      clear hK K hrunU
      have HOW := Lib.hid ((HOr.out.grown HALL.out (fun b e => .inr (by have := hvl b e; have := ZY.out; omega)) (Nat.le_refl _)).grown HG2'.out (fun b e => by cases e; exact .inl rfl) (Nat.le_refl _))
      have HGN : Hid (GrpD (G.put (.int .i64 (c : Nat)) (rowDatum .i64 v' (zs ++ [ln]))) (gj4 p wh u (j + 1))) := by
        have e3 : gj4 p wh u (j + 1) (c : Nat) = zs ++ [ln] := by
          have := gj4_yes (p := p) (wh := wh) (u := u) (j := j) (by rw [HGL.out, HGH.out, HLN.out]; omega)
          rw [HGL.out, HLN.out, HC.out, ← HZS.out] at this
          exact this
        exact Lib.hid (HG2.out.put HO9.out e3 (by simp) fun y hy => gj4_no (by rw [HGL.out, HGH.out, HLN.out]; omega) (by rw [HGL.out, HLN.out, HC.out]; exact hy))
      clear HALL HG2' HRF HRB HBK HOI hvl HO9
      go_wp2_with fail
      go_roundw
      case rel => exact ⟨j + 1, (by have := HLN.out; omega), (by have := HLN.out; simp; omega), HOW, Lib.hid ⟨_, HO2.out, HGN.out⟩⟩
      case measure => simp [intOf]; omega
    · have hqB : decide (glo + (j : Int) ≤ ghi) = false := decide_eq_false hle
      obtain rfl : j = (ghi - glo + 1).toNat := by omega
      obtain ⟨we, rfl⟩ : ∃ we : World, we = wr := ⟨_, rfl⟩
      rw [← HGL.out, ← HGH.out, ← ln4_len] at HGr
      obtain ⟨G, hG1, hG2⟩ := HGr.out
      have HG2 := Lib.hid hG2
      have HGM := Lib.hid (groups_map hG1)
      have HGG := Lib.hid hG1
      have hlen : (ln4 p).length ≤ 99999 := by rw [ln4_len, HGL.out, HGH.out]; omega
      have HKB := Lib.hid (fun W (hW : W.ownsMap Tryz.prog 3 (rowElem we (w1.heap.size + 1) 3 .i64) w1.heap.size (ln4 p).length G) => sortedB4 w1.heap.size (ln4 p).length G p wh u W hW hG2 (by omega))
      clear hG1 hG2 HGr
      obtain ⟨m, hm⟩ : ∃ m, (ky4 p wh u).length = m := ⟨_, rfl⟩
      have hmb : m ≤ 9 := by
        rw [← hm]; unfold ky4
        rw [List.length_map]
        refine Nat.le_trans (List.length_filter_le _ _) ?_
        rw [List.length_range]; omega
      rw [hm] at HKB
      have HKM := Lib.hid hm
      have HGR := Lib.hid (fun k (h : k < m) => ky4_get (p := p) (wh := wh) (u := u) (k := k) (by omega))
      clear hm
      go_wp2_with (first | (go_at_call 124; refine (keysB_c _ _).mono ?_; rintro e w' ⟨rfl, rfl⟩) | (go_at_call 39; refine (HKB.out we HGM.out).mono ?_; rintro e wz ⟨Ak, ck, rfl, hik, hbz⟩))
      have HIK := Lib.hid hik
      have zz := hbz.size
      have HBZ := Lib.hid hbz
      have HMX : (ky4 p wh u).length = m := HKM.out
      clear hik hbz HKB
      go_loopw [10, 46] (fun o i (ws : World) => ∃ (k : Nat) (hs : List Hg4), k ≤ m ∧ i = .int .i64 k ∧ OwnGs wz.heap.size w.heap.size ws o k hs ((gr4 p wh u).take k) ∧ Hid (Below wz.heap.size wz ws)) (fun _ i _ => m - (intOf i).toNat)
      case atStart => exact ⟨0, [], by omega, by simp, OwnGs.nil _ _ _, Lib.hid (Below.refl _ _)⟩
      case round =>
        obtain ⟨k, hs, hk, rfl, HOo, HBs⟩ := hrel
        have hbs := HBs.out
        have zs := hbs.size
        by_cases hkm : k < m
        · have hkB : decide ((k : Int) < m) = true := by simp; omega
          obtain ⟨nk, hnk, hgk⟩ := HGR.out k hkm
          obtain ⟨bk, ok', hAk, hbk, xk⟩ := (HIK.out.later hbs).get hkm
          subst hAk
          have hxk : iAt (ky4 p wh u) k = nk := by unfold iAt; rw [List.getD_eq_getElem?_getD, hnk]; rfl
          rw [hxk] at xk
          have hnb : nk ≤ 8 := by
            have hm := List.mem_of_getElem? hnk
            unfold ky4 at hm
            obtain ⟨n', hn', e⟩ := List.mem_map.1 hm
            have := List.mem_range.1 (List.mem_filter.1 hn').1
            omega
          obtain ⟨zs', hzs⟩ : ∃ z, gj4 p wh u (ln4 p).length (nk : Int) = z := ⟨_, rfl⟩
          obtain ⟨v, zs0, hrunB, hatB, hoi, hzl, -⟩ := HGG.out.at keyed3 Tryz.underlying183 (zeroS4 _) (by unfold maxLen; omega) (key3 (x := (nk : Nat)) (by omega))
          have hz0 : zs0 = zs' := by rw [← hzs]; exact HG2.out.get hatB hoi
          subst hz0
          have hrun : (Instr.lookup 183 (.map (some w1.heap.size)) (.int .i64 (nk : Nat)) false).run Tryz.prog wr = .ok v wr := by
            obtain ⟨es, clock, e1, e2, -⟩ := HGG.out
            exact look_same keyed3 Tryz.underlying183 zeroS4 e2 e1 ((hbs.block _ (by omega)).trans (HBZ.out.block _ (by omega))) (key3 (x := (nk : Nat)) (by omega)) hrunB
          obtain ⟨A, c, rfl, -, hsl⟩ := SlAt.of_own (d := (0 : Int)) encI_len (own_ints hoi) rfl
          have HAA := Lib.hid (own_addr (own_ints hoi))
          have HSI := Lib.hid ((ints_iff.2 hsl).later HBZ.out)
          have HNK := Lib.hid (And.intro hnk hgk)
          have HZS := Lib.hid hzs
          have v2 : IntKind.i64.wrap ((k : Int) + 1) = (k : Int) + 1 := IntWalk.i64_in _ (by omega)
          have HOo' := Lib.hid HOo
          have hol := HOo.own.lt
          clear hnk hgk hxk hzs hatB hoi hsl hrunB HOo
          go_wp2_with (at_builtin; go_must (refine wpList_append_T _ (d := (⟨0, ⟨none, 0, 0⟩⟩ : Hg4)) rfl (.tmp 50) (.tmp 56) _ rfl wz.heap.size _ 2 32 grp4E encG4_len encG4_one u10 u10.ownBlock k hs rfl rfl ?_ _ 1 _ [⟨nk, ⟨A, zs0.length, c⟩⟩] rfl ?_ ?_ ?_ ?_; (exact own_below HOo'.out.own (by (repeat first | with_reducible assumption | with_reducible exact Below.refl _ _ | (with_reducible refine Below.alloc ?_ ?side _; case side => (first | omega | (with_reducible exact Below.size (by assumption)) | (simp; done) | (simp; omega))) | (with_reducible refine Below.setCell ?_ ?side _; case side => (first | omega | (with_reducible exact Below.size (by assumption)) | (simp; done) | (simp; omega))) | with_reducible refine Below.drew ?_ | with_reducible refine below_drewN ?_ _ | (with_reducible refine below_step (by assumption) ?side ?_; case side => (first | omega | (with_reducible exact Below.size (by assumption)) | (simp; done) | (simp; omega)))))); (exact sl_new encG4_len rfl rfl rfl); (focus omega); (focus (simp only [World.size_alloc]; omega)); (intro v' w6 hown6 hg6 hat6)))
          have hzl2 := HBZ.out.size
          have hpush := HOo'.out.push (x := ⟨nk, ⟨A, zs0.length, c⟩⟩) (g := (nk, zs0)) rfl (HSI.out.later hbs) (fun a e => by have := HAA.out a e; omega) hown6 hg6 zs
          have hb6 : Below wz.heap.size wz w6 := Below.grown (by (repeat first | with_reducible assumption | with_reducible exact Below.refl _ _ | (with_reducible refine Below.alloc ?_ ?side _; case side => (first | omega | (with_reducible exact Below.size (by assumption)) | (simp; done) | (simp; omega))) | (with_reducible refine Below.setCell ?_ ?side _; case side => (first | omega | (with_reducible exact Below.size (by assumption)) | (simp; done) | (simp; omega))) | with_reducible refine Below.drew ?_ | with_reducible refine below_drewN ?_ _ | (with_reducible refine below_step (by assumption) ?side ?_; case side => (first | omega | (with_reducible exact Below.size (by assumption)) | (simp; done) | (simp; omega))))) hg6 (by go_size) (own_ge HOo'.out.own)
          have HP := Lib.hid hpush
          have HB6 := Lib.hid hb6
          clear hpush hb6 hown6 hg6 hat6
          go_roundw
          case rel =>
            refine ⟨k + 1, hs ++ [⟨nk, ⟨A, zs0.length, c⟩⟩], by omega, by go_num, ?_, HB6⟩
            rw [List.take_add_one, HNK.out.2, HZS.out]
            exact HP.out
          case measure => simp [intOf]; omega
        · obtain rfl : k = m := by omega
          have hkB : decide ((k : Int) < k) = false := by simp
          go_wp2_with fail
          go_ret
          have e1 : (gr4 p wh u).take k = gr4 p wh u := List.take_of_length_le (by rw [gr4_len]; omega)
          have e2 : (gr4 p wh u).length = k := by rw [gr4_len]; omega
          rw [e1] at HOo
          obtain ⟨A, c, rfl, hA⟩ := HOo.at_ (by have := HWY.out.size; omega) zs
          unfold Grp4
          rw [e2]
          have h1 := (HOr.out.below (m := w.heap.size) (fun b e => by omega) (by omega) HWY.out)
          have h2 := h1.trans (HBZ.out.mono (by omega))
          exact ⟨A, c, hs, rfl, hA, h2.trans (hbs.mono (by omega))⟩

end Go.Proofs.YtcbeiadimchknaaGreat
