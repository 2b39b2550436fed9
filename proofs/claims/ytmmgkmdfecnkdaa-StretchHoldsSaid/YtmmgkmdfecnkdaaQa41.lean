/- The specification's worn (layer 4), walked: all lengths of the rods behind those that are known, as lists. -/
import Derived.Test.YtmmgkmdfecnkdaaQa35
import Derived.Test.YtmmgkmdfecnkdaaQa16
import Derived.Test.YtmmgkmdfecnkdaaQa05
import Derived.Shelf.Abstract
import Derived.Laws.EntriesVeiled
import Derived.Handy
import Derived.Deep.DrawnRows
import Derived.Deep.DeepCutAuto
namespace Go.Proofs.Ytmmgkmdfecnkdaa
open Go.RowKit
open Go.Sort (grow)
set_option linter.unusedVariables false
set_option linter.unusedSimpArgs false

theorem slcE1 : ElemT Try.prog 98 37 1 24 := by
  obtain ⟨i0, hi0, hz0, hz1, hz2⟩ := info_parts (P := Try.prog) (show (Try.prog.info? 37).map (fun i => (i.zero, i.size, i.bytes)) = some (some (.slice none 0 0), 1, 24) by kernel_rfl)
  exact ⟨Try.underlying98, ⟨i0, _, hi0, hz0, hz1, hz2, rfl⟩, by omega, by omega⟩
/-- what worn gives for the first k lengths of a rod -/
def wkL (rods : List Ro4) (i r : Nat) (f : List Int) (lo : Int) (k : Nat) : List (List Int) := ((List.range k).map fun j : Nat => lo + (j : Int)).flatMap fun n => woL rods (i + 1) r (f ++ [n])
theorem wkL_succ {rods : List Ro4} {i r : Nat} {f : List Int} {lo : Int} {k : Nat} : wkL rods i r f lo (k + 1) = wkL rods i r f lo k ++ woL rods (i + 1) r (f ++ [lo + (k : Int)]) := by
  unfold wkL
  rw [List.range_succ, List.map_append, List.flatMap_append]; simp
theorem woL_succ {rods : List Ro4} {i r : Nat} {f : List Int} : woL rods i (r + 1) f = wkL rods i r f ((roAt rods i).lg - (roAt rods i).we) ((roAt rods i).lg - ((roAt rods i).lg - (roAt rods i).we) + 1).toNat := rfl
theorem woL_le {rods : List Ro4} (h : ∀ k, (roAt rods k).we ≤ 9) : ∀ (r i : Nat) (f : List Int), (woL rods i r f).length ≤ 10 ^ r
  | 0, i, f => by simp [woL]
  | r + 1, i, f => by
    rw [woL_succ]
    have h9 := h i
    have : ∀ k, (wkL rods i r f ((roAt rods i).lg - (roAt rods i).we) k).length ≤ k * 10 ^ r := fun k => by
      induction k with
      | zero => simp [wkL]
      | succ k ih =>
        rw [wkL_succ, List.length_append, Nat.succ_mul]
        exact Nat.add_le_add ih (woL_le h r (i + 1) _)
    refine Nat.le_trans (this _) ?_
    rw [Nat.pow_succ, Nat.mul_comm]
    exact Nat.mul_le_mul_left _ (by omega)
theorem wkL_le {rods : List Ro4} (h : ∀ k, (roAt rods k).we ≤ 9) (r i : Nat) (f : List Int) (lo : Int) (k : Nat) : (wkL rods i r f lo k).length ≤ k * 10 ^ r := by
  induction k with
  | zero => simp [wkL]
  | succ k ih =>
    rw [wkL_succ, List.length_append, Nat.succ_mul]
    exact Nat.add_le_add ih (woL_le h r (i + 1) _)
/-- what worn hands back -/
def WoRet (FA : Option Addr) (L : List (List Int)) (w : World) (e : Ending) (w' : World) : Prop :=
  ∃ A c hs, e = .returned (.slice A L.length c) ∧ SsAt w' A L.length hs L ∧ (∀ k, k < L.length → ∀ a, (hAt hs k).A = some a → w.heap.size ≤ a.block ∨ FA = some a) ∧ Below w.heap.size w w'
section
variable (Ar : Option Addr) (nr cr : Nat) (Ad : Option Addr) (nd cd : Nat) (ir glo ghi wrg : Int) (rods : List Ro4)
set_option maxRecDepth 100000 in
set_option maxHeartbeats 1600000 in
theorem refworn4_0 (FA : Option Addr) (cs : Nat) (l : List Int) (w : World) (hll : l.length = nr) (HS : IntsAt w FA nr l) (hA : ∀ a, FA = some a → a.block < w.heap.size) :
    Calls Try.prog 69 #[.agg #[.int .i64 ir, .int .i64 glo, .int .i64 ghi, .slice Ar nr cr, .slice Ad nd cd, .int .i64 wrg], .slice FA nr cs] w (WoRet FA [l] w) := by
  have HSI := Lib.hid HS
  have HA := Lib.hid hA
  clear HS hA
  have eB : ((nr : Int) == (nr : Int)) = true := by simp
  go_enter Try.func69, Try.ntmps69
  go_upto_region 1 with (fail)
  go_name_world w1 hX
  have B1 : Below w.heap.size w w1 := (al1 hX).1
  have qX := (al1_0 hX).2.1
  have lX := (al1_0 hX).1
  clear hX
  go_wp2_with fail
  have hI := HSI.out.later B1
  have hsl := sl_new (d := (⟨none, 0, 0⟩ : Hd)) encH_len (w := w1) (cs := #[.slice FA nr cs]) (e := 37) (ys := [⟨FA, nr, cs⟩]) (g := w1.heap.size) (m := 1) rfl rfl rfl
  refine bodyPost_ret (v := .slice (some ⟨w1.heap.size, 0, none⟩) 1 1) (by simp [results, Try.results69, go_sem]) rfl ⟨_, 1, [⟨FA, nr, cs⟩], rfl, ⟨hsl, rfl, fun k hk => ?_, fun k hk a ha => ?_⟩, fun k hk a ha => ?_, by (repeat first | with_reducible assumption | with_reducible exact Below.refl _ _ | (with_reducible refine Below.alloc ?_ ?side _; case side => (first | omega | (with_reducible exact Below.size (by assumption)) | (simp; done) | (simp; omega))) | (with_reducible refine Below.setCell ?_ ?side _; case side => (first | omega | (with_reducible exact Below.size (by assumption)) | (simp; done) | (simp; omega))) | with_reducible refine Below.drew ?_ | with_reducible refine below_drewN ?_ _ | (with_reducible refine below_step (by assumption) ?side ?_; case side => (first | omega | (with_reducible exact Below.size (by assumption)) | (simp; done) | (simp; omega))))⟩
  · obtain rfl : k = 0 := by simpa using hk
    exact hI.later (by (repeat first | with_reducible assumption | with_reducible exact Below.refl _ _ | (with_reducible refine Below.alloc ?_ ?side _; case side => (first | omega | (with_reducible exact Below.size (by assumption)) | (simp; done) | (simp; omega))) | (with_reducible refine Below.setCell ?_ ?side _; case side => (first | omega | (with_reducible exact Below.size (by assumption)) | (simp; done) | (simp; omega))) | with_reducible refine Below.drew ?_ | with_reducible refine below_drewN ?_ _ | (with_reducible refine below_step (by assumption) ?side ?_; case side => (first | omega | (with_reducible exact Below.size (by assumption)) | (simp; done) | (simp; omega)))))
  · obtain rfl : k = 0 := by simpa using hk
    have := HA.out a ha
    have := B1.size
    simp; omega
  · obtain rfl : k = 0 := by simpa using hk
    exact .inr ha
set_option maxRecDepth 100000 in
set_option maxHeartbeats 3200000 in
theorem refworn4_s (p : Nat) (FA : Option Addr) (ns cs : Nat) (l : List Int) (w : World) (hn4 : nr ≤ 4) (hwe : ∀ k, (roAt rods k).we ≤ 9) (hro : (1 ≤ (roAt rods ns).lg ∧ (roAt rods ns).lg ≤ 9999) ∧ (0 ≤ (roAt rods ns).we ∧ (roAt rods ns).we ≤ 9)) (hll : l.length = ns) (hnp : ns + (p + 1) = nr) (HR : RosAt w Ar nr rods) (HS : IntsAt w FA ns l)
    (ih : Hid (∀ (A : Option Addr) (c : Nat) (x : Int) V, Below w.heap.size w V → IntsAt V A (ns + 1) (l ++ [x]) → (∀ a, A = some a → a.block < V.heap.size) → Calls Try.prog 69 #[.agg #[.int .i64 ir, .int .i64 glo, .int .i64 ghi, .slice Ar nr cr, .slice Ad nd cd, .int .i64 wrg], .slice A (ns + 1) c] V (WoRet A (woL rods (ns + 1) p (l ++ [x])) V))) :
    Calls Try.prog 69 #[.agg #[.int .i64 ir, .int .i64 glo, .int .i64 ghi, .slice Ar nr cr, .slice Ad nd cd, .int .i64 wrg], .slice FA ns cs] w (WoRet FA (woL rods ns (p + 1) l) w) := by
  rw [woL_succ]
  have hp10 : 10 ^ p ≤ 1000 := Nat.le_trans (Nat.pow_le_pow_right (by omega) (show p ≤ 3 by omega)) (by decide)
  have HLE := Lib.hid (fun lo k (hk : k ≤ 10) => Nat.le_trans (wkL_le hwe p ns l lo k) (Nat.mul_le_mul hk hp10))
  have HLF := Lib.hid (fun m => Nat.le_trans (woL_le hwe p (ns + 1) m) hp10)
  have HSI := Lib.hid HS
  have HRI := Lib.hid HR
  have eB : ((ns : Int) == (nr : Int)) = false := by rw [beq_eq_false_iff_ne]; omega
  have i1 : decide ((ns : Int) < nr) = true := decide_eq_true (by omega)
  obtain ⟨bd, off, eA, hbd, x0, x1, x2⟩ := HR.get (show ns < nr by omega)
  cases eA
  obtain ⟨⟨lg, we, gr⟩, hy⟩ : ∃ y, roAt rods ns = y := ⟨_, rfl⟩
  rw [hy] at x0 x1 x2 hro ⊢
  simp only at x0 x1 x2 hro ⊢
  have X0 := Lib.hid (fun V (h : Below w.heap.size w V) => (h.cell (p := ⟨bd, off + ns * 3, none⟩) hbd).trans x0)
  have X1 := Lib.hid (fun V (h : Below w.heap.size w V) => (h.cell (p := ⟨bd, off + ns * 3 + 1, none⟩) hbd).trans x1)
  have X2 := Lib.hid (fun V (h : Below w.heap.size w V) => (h.cell (p := ⟨bd, off + ns * 3 + 2, none⟩) hbd).trans x2)
  have vs : IntKind.i64.wrap (lg - we) = lg - we := IntWalk.i64_in _ (by omega)
  obtain ⟨N, hN⟩ : ∃ N : Nat, (lg - (lg - we) + 1).toNat = N := ⟨_, rfl⟩
  rw [hN]
  have HN2 : Hid ((N : Int) = we + 1) := Lib.hid (by omega)
  obtain ⟨lo, hlo⟩ : ∃ x, lg - we = x := ⟨_, rfl⟩
  rw [hlo] at ⊢
  have VS : IntKind.i64.wrap (lg - we) = lo := vs.trans hlo
  have HLO := Lib.hid hlo
  clear HS HR hwe hy x0 x1 x2 hN hlo hp10 vs
  go_enter Try.func69, Try.ntmps69
  go_upto_region 1 with (fail)
  go_name_world X hX
  have B1 : Below w.heap.size w X := (al1 hX).1
  have HPX : Hid (Blk X w.heap.size 27 #[Value.int .i64 ir, .int .i64 glo, .int .i64 ghi, .slice (some ⟨bd, off, none⟩) nr cr, .slice Ad nd cd, .int .i64 wrg]) := by rw [← hX]; exact Lib.hid (Blk.new w _ _)
  have qX := HPX.out.cell
  have lX := HPX.out.lt
  have d0 := X0.out X B1
  have d1 := X1.out X B1
  have d2 := X2.out X B1
  clear hX
  go_upto_region 5 with (fail)
  go_name_world w1 hX
  have bx1 : Below X.heap.size X w1 := (al1 hX).1
  have BW := B1.trans (bx1.mono B1.size)
  have HPW := Lib.hid (HPX.out.below bx1 lX)
  have HXW : Hid (Blk w1 X.heap.size 49 #[.int .i64 lg, .int .i64 we, .int .i64 gr]) := by rw [← hX]; exact Lib.hid (Blk.new X _ _)
  have c5 := HXW.out.cell
  have l5 := HXW.out.lt
  have l1 := HPW.out.lt
  have zX := bx1.size
  clear hX qX d0 d1 d2
  go_wp2_with fail
  clear c5
  have own0 := Lib.hid (OwnSs.nil w1 w1.heap.size 37)
  go_loopw [5, 7] (fun v i (wr : World) => ∃ (k : Nat) (hs : List Hd), k ≤ N ∧ i = .int .i64 (lo + (k : Int)) ∧ Hid (OwnSs w1.heap.size 37 wr v (wkL rods ns p l lo k).length hs (wkL rods ns p l lo k)) ∧ Hid (∀ j, j < (wkL rods ns p l lo k).length → ∀ a, (hAt hs j).A = some a → w1.heap.size ≤ a.block) ∧ Below w1.heap.size w1 wr) (fun _ i _ => N - (intOf i - lo).toNat)
  case atStart => exact ⟨0, [], by omega, by simp, own0, Lib.hid (fun j hj => absurd hj (by simp [wkL])), Below.refl _ _⟩
  case round =>
    obtain ⟨k, hs, hk, rfl, HO, HN, hb⟩ := hrel
    have zb := hb.size
    have cR := (HXW.out.below hb l5).cell
    have lR := (HXW.out.below hb l5).lt
    have hbw : Below w.heap.size w wr := BW.trans (hb.mono BW.size)
    have HPR := Lib.hid (HPW.out.below hb l1)
    have nn := HN2.out
    have ll := HLO.out
    by_cases hlt : k < N
    · have hqB : decide (lo + (k : Int) ≤ lg) = true := decide_eq_true (by omega)
      have vk : IntKind.i64.wrap (lo + (k : Int) + 1) = lo + (k : Int) + 1 := IntWalk.i64_in _ (by omega)
      have HS : Hid (∀ W', Below w1.heap.size wr W' → ∀ j, W'.cell? ⟨w.heap.size, j, none⟩ = #[Value.int .i64 ir, .int .i64 glo, .int .i64 ghi, .slice (some ⟨bd, off, none⟩) nr cr, .slice Ad nd cd, .int .i64 wrg][j]?) := Lib.hid fun W' h j => (h.cell (p := ⟨w.heap.size, j, none⟩) l1).trans (HPR.out.cell j)
      have HK1 := Lib.hid (wkL_succ (rods := rods) (i := ns) (r := p) (f := l) (lo := lo) (k := k))
      have ihk := Lib.hid (fun A c V hV => ih.out A c (lo + (k : Int)) V hV)
      have hle1 := HLE.out lo k (by omega)
      have hle2 := HLF.out (l ++ [lo + (k : Int)])
      obtain ⟨LK, hLK⟩ : ∃ L, wkL rods ns p l lo k = L := ⟨_, rfl⟩
      obtain ⟨LN, hLN⟩ : ∃ L, woL rods (ns + 1) p (l ++ [lo + (k : Int)]) = L := ⟨_, rfl⟩
      rw [hLK] at HO HN HK1 hle1
      rw [hLN] at HK1 ihk hle2
      obtain ⟨n1, hn1⟩ : ∃ n, LK.length = n := ⟨_, rfl⟩
      obtain ⟨n2, hn2⟩ : ∃ n, LN.length = n := ⟨_, rfl⟩
      rw [hn1] at HO HN hle1
      have HN1 := Lib.hid hn1
      have HN2' := Lib.hid hn2
      clear hLK hLN hn1 nn ll
      have hS := HS.out wr.drew (by (repeat first | with_reducible assumption | with_reducible exact Below.refl _ _ | (with_reducible refine Below.alloc ?_ ?side _; case side => (first | omega | (with_reducible exact Below.size (by assumption)) | (simp; done) | (simp; omega))) | (with_reducible refine Below.setCell ?_ ?side _; case side => (first | omega | (with_reducible exact Below.size (by assumption)) | (simp; done) | (simp; omega))) | with_reducible refine Below.drew ?_ | with_reducible refine below_drewN ?_ _ | (with_reducible refine below_step (by assumption) ?side ?_; case side => (first | omega | (with_reducible exact Below.size (by assumption)) | (simp; done) | (simp; omega)))))
      go_upto_region 8 with (fail)
      clear cR lR
      refine wp_region_L (by kernel_rfl) (fun W' => ∀ j, W'.cell? ⟨w.heap.size, j, none⟩ = #[Value.int .i64 ir, .int .i64 glo, .int .i64 ghi, .slice (some ⟨bd, off, none⟩) nr cr, .slice Ad nd cd, .int .i64 wrg][j]?) 10 ?_
      refine wpAnyL_take (i := 0) (v := ?_) rfl (by kernel_rfl) (by kernel_rfl) (by kernel_rfl) (by kernel_rfl) (fun _ _ _ h => h) hS (Or.inl ⟨by rfl, ?_⟩) ?_
      rotate_left 1
      · intro w9 hw9
        have k0 := hw9
        go_simp
        try with_reducible rfl
      simp only [List.getElem_toArray, List.getElem_cons_zero, Act.put, List.setIfInBounds_toArray, List.set_cons_zero, List.set_cons_succ]
      refine wpAnyL_take (i := 1) (v := ?_) rfl (by kernel_rfl) (by kernel_rfl) (by kernel_rfl) (by kernel_rfl) (fun _ _ _ h => h) hS (Or.inl ⟨by rfl, ?_⟩) ?_
      rotate_left 1
      · intro w9 hw9
        have k0 := hw9
        go_simp
        try with_reducible rfl
      try simp only [List.getElem_toArray, List.getElem_cons_zero, List.getElem_cons_succ, Act.put, List.setIfInBounds_toArray, List.set_cons_zero, List.set_cons_succ]
      refine wpAnyL_take (i := 3) (v := ?_) rfl (by kernel_rfl) (by kernel_rfl) (by kernel_rfl) (by kernel_rfl) (fun _ _ _ h => h) hS (Or.inl ⟨by rfl, ?_⟩) ?_
      rotate_left 1
      · intro w9 hw9
        have k0 := hw9
        go_simp
        try with_reducible rfl
      try simp only [List.getElem_toArray, List.getElem_cons_zero, List.getElem_cons_succ, Act.put, List.setIfInBounds_toArray, List.set_cons_zero, List.set_cons_succ]
      refine wpAnyL_take (i := 5) (v := ?_) rfl (by kernel_rfl) (by kernel_rfl) (by kernel_rfl) (by kernel_rfl) (fun _ _ _ h => h) hS (Or.inl ⟨by rfl, ?_⟩) ?_
      rotate_left 1
      · intro w9 hw9
        have k0 := hw9
        go_simp
        try with_reducible rfl
      try simp only [List.getElem_toArray, List.getElem_cons_zero, List.getElem_cons_succ, Act.put, List.setIfInBounds_toArray, List.set_cons_zero, List.set_cons_succ]
      refine wpAnyL_two (i := 2) (j := 6) (by kernel_rfl) rfl rfl (fun K hK => ?_) (fun K hK => ?_)
      · go_simp
        refine hK.out _ _ (fun _ => HS.out _ (by (repeat first | with_reducible assumption | with_reducible exact Below.refl _ _ | (with_reducible refine Below.alloc ?_ ?side _; case side => (first | omega | (with_reducible exact Below.size (by assumption)) | (simp; done) | (simp; omega))) | (with_reducible refine Below.setCell ?_ ?side _; case side => (first | omega | (with_reducible exact Below.size (by assumption)) | (simp; done) | (simp; omega))) | with_reducible refine Below.drew ?_ | with_reducible refine below_drewN ?_ _ | (with_reducible refine below_step (by assumption) ?side ?_; case side => (first | omega | (with_reducible exact Below.size (by assumption)) | (simp; done) | (simp; omega)))))) (fun hS' => ?_)
        clear hK K hS'
        refine wpAnyL_two (i := 4) (j := 6) (by kernel_rfl) rfl rfl (fun K hK => ?_) (fun K hK => ?_)
        · skip
          refine step_append_T _ (d := (0 : Int)) rfl (.tmp 35) (.tmp 36) _ rfl wr.heap.size _ 1 8 int4E encI_len encI_one (.slice (some ⟨wr.heap.size, 0, none⟩) 0 0) (some (wr.heap.size)) 0 [] rfl rfl (own_empty (w := wr.drew) (by go_size) rfl) FA ns cs l rfl (ints_iff.1 (HSI.out.later (hbw.trans (by have := hbw.size; (repeat first | with_reducible assumption | with_reducible exact Below.refl _ _ | (with_reducible refine Below.alloc ?_ ?side _; case side => (first | omega | (with_reducible exact Below.size (by assumption)) | (simp; done) | (simp; omega))) | (with_reducible refine Below.setCell ?_ ?side _; case side => (first | omega | (with_reducible exact Below.size (by assumption)) | (simp; done) | (simp; omega))) | with_reducible refine Below.drew ?_ | with_reducible refine below_drewN ?_ _ | (with_reducible refine below_step (by assumption) ?side ?_; case side => (first | omega | (with_reducible exact Below.size (by assumption)) | (simp; done) | (simp; omega)))))))) (by omega) (by go_size) (fun v9 w9 ho9 hg9 ha9 => ?_)
          rw [Nat.zero_add, List.nil_append] at ho9
          obtain ⟨A9, c9, rfl, -, hs9⟩ := SlAt.of_own (d := (0 : Int)) encI_len ho9 (hll)
          have hb9 : Below wr.heap.size wr w9 := Below.grown (by (repeat first | with_reducible assumption | with_reducible exact Below.refl _ _ | (with_reducible refine Below.alloc ?_ ?side _; case side => (first | omega | (with_reducible exact Below.size (by assumption)) | (simp; done) | (simp; omega))) | (with_reducible refine Below.setCell ?_ ?side _; case side => (first | omega | (with_reducible exact Below.size (by assumption)) | (simp; done) | (simp; omega))) | with_reducible refine Below.drew ?_ | with_reducible refine below_drewN ?_ _ | (with_reducible refine below_step (by assumption) ?side ?_; case side => (first | omega | (with_reducible exact Below.size (by assumption)) | (simp; done) | (simp; omega))))) hg9 (by go_size) (fun g hg => by cases hg; first | exact Nat.le_refl _ | omega)
          refine hK.out _ _ (fun _ => HS.out w9 (hb9.mono zb)) (fun hS' => ?_)
          clear hK K hS' hg9 ha9 hs9
          have z9 := hb9.size
          have HO9 := Lib.hid ho9
          clear ho9
          try simp only [List.getElem_toArray, List.getElem_cons_zero, List.getElem_cons_succ, Act.put, List.setIfInBounds_toArray, List.set_cons_zero, List.set_cons_succ]
          refine wpAnyL_one (i := 6) (by kernel_rfl) rfl (fun K hK => ?_)
          go_simp
          obtain ⟨Wc, hWc⟩ : ∃ Z, w9.alloc (.cells #[.int .i64 (lo + (k : Int))] 3) = Z := ⟨_, rfl⟩
          rw [hWc]
          have bWc : Below w9.heap.size w9 Wc := (al1 hWc).1
          have hbc : Below wr.heap.size wr Wc := hb9.trans (bWc.mono z9)
          have HOc := Lib.hid (own_below HO9.out bWc)
          have HGc : Hid (SlAt encI 1 0 Wc (some ⟨w9.heap.size, 0, none⟩) 1 [lo + (k : Int)]) := Lib.hid (by rw [← hWc]; exact sl_new encI_len rfl rfl rfl)
          obtain ⟨gg, hgg⟩ : ∃ g, w9.heap.size = g := ⟨_, rfl⟩
          rw [hgg] at HGc ⊢
          refine hK.out _ _ (fun _ => HS.out Wc (hbc.mono zb)) (fun hS' => ?_)
          clear hK K hS' hWc hgg bWc HO9
          refine wpAnyL_one (i := 7) (by kernel_rfl) rfl (fun K hK => ?_)
          refine step_append_T _ (d := (0 : Int)) rfl (.tmp 37) (.tmp 39) _ rfl wr.heap.size _ 1 8 int4E encI_len encI_one (.slice A9 ns c9) ((Value.slice A9 ns c9).ownBlock) ns l rfl rfl HOc.out (some ⟨gg, 0, none⟩) 1 1 [lo + (k : Int)] rfl HGc.out (by omega) (by have := hbc.size; omega) (fun v10 w10 ho10 hg10 ha10 => ?_)
          have hl1 : (l ++ [lo + (k : Int)]).length = ns + 1 := by simp [hll]
          obtain ⟨A10, c10, rfl, -, hs10⟩ := SlAt.of_own (d := (0 : Int)) encI_len ho10 hl1
          have hb10 : Below wr.heap.size Wc w10 := Below.grown (Below.refl _ _) hg10 hbc.size (own_ge HOc.out)
          have hbt : Below wr.heap.size wr w10 := hbc.trans hb10
          have hA10 := Lib.hid (fun a e => own_addr ho10 a e)
          have hI10 : Hid (IntsAt w10 A10 (ns + 1) ((l ++ [lo + (k : Int)]))) := Lib.hid (ints_iff.2 hs10)
          refine hK.out _ _ (fun _ => HS.out w10 (hbt.mono zb)) (fun hS' => ?_)
          clear hK K hS' hg10 ha10 ho10 hs10 hl1 hb10
          try simp only [List.getElem_toArray, List.getElem_cons_zero, List.getElem_cons_succ, Act.put, List.setIfInBounds_toArray, List.set_cons_zero, List.set_cons_succ]
          have zt := hbt.size
          refine wpAnyL_one (i := 8) (by kernel_rfl) rfl (fun K hK => ?_)
          go_simp
          go_at_call 69
          refine (ihk.out A10 c10 w10 (hbw.trans (hbt.mono (by omega))) hI10.out (fun a e => (hA10.out a e).2)).mono ?_
          rintro e w11 ⟨A11, c11, hs11, rfl, hss, hin, hb11⟩
          have hbt11 : Below wr.heap.size wr w11 := hbt.trans (hb11.mono zt)
          refine hK.out _ _ (fun _ => HS.out w11 (hbt11.mono zb)) (fun hS' => ?_)
          clear hK K hS'
          try simp only [List.getElem_toArray, List.getElem_cons_zero, List.getElem_cons_succ, Act.put, List.setIfInBounds_toArray, List.set_cons_zero, List.set_cons_succ]
          have z11 := hb11.size
          have HIN : Hid (∀ j, j < LN.length → ∀ a, (hAt hs11 j).A = some a → wr.heap.size ≤ a.block ∧ a.block < w11.heap.size) := Lib.hid fun j hj a ha => ⟨by
            rcases hin j hj a ha with h | h
            · omega
            · exact (hA10.out a h).1, hss.bd j hj a ha⟩
          refine wpAnyL_one (i := 9) (by kernel_rfl) rfl (fun K hK => ?_)
          refine step_append_T _ (d := (⟨none, 0, 0⟩ : Hd)) rfl (.tmp 33) (.tmp 41) _ rfl w1.heap.size _ 1 24 slcE1 encH_len encH_one u5 u5.ownBlock n1 hs rfl rfl (own_below HO.out.own hbt11) A11 LN.length c11 hs11 rfl hss.sl (by omega) (by omega) (fun v12 w12 ho12 hg12 ha12 => ?_)
          have hb12 : Below w1.heap.size w11 w12 := Below.grown (Below.refl _ _) hg12 (by omega) (own_ge HO.out.own)
          have hbn : Below w1.heap.size wr w12 := (hbt11.mono zb).trans hb12
          have HPU : Hid (OwnSs w1.heap.size 37 w12 v12 (wkL rods ns p l lo (k + 1)).length (hs ++ hs11) (wkL rods ns p l lo (k + 1))) := Lib.hid (by
            rw [HK1.out, List.length_append, HN1.out]
            exact (HO.out.later hbt11).app hss.sl.1 (by simp) hss.inn (fun j hj a ha => ⟨fun e' => by have h2 := (HO.out.own.lt _ e').2; have h3 := (HIN.out j hj a ha).1; omega, (HIN.out j hj a ha).2⟩) ho12 hg12 ha12)
          have HNN : Hid (∀ j, j < (wkL rods ns p l lo (k + 1)).length → ∀ a, (hAt (hs ++ hs11) j).A = some a → w1.heap.size ≤ a.block) := Lib.hid (by
            rw [HK1.out, List.length_append, HN1.out]
            intro j hj a ha
            rcases Nat.lt_or_ge j n1 with h' | h'
            · rw [hAt_lo (by rw [HO.out.hl]; exact h')] at ha
              exact HN.out j h' a ha
            · obtain ⟨i, rfl⟩ := Nat.exists_eq_add_of_le h'
              have e1 := hAt_ge (hs := hs) (hs' := hs11) (k := i)
              rw [HO.out.hl] at e1
              rw [e1] at ha
              have := (HIN.out i (by omega) a ha).1
              omega)
          refine hK.out _ _ (fun _ => HS.out w12 hbn) (fun hS' => ?_)
          clear hK K hS' ho12 hg12 ha12 hin
          try simp only [List.getElem_toArray, List.getElem_cons_zero, List.getElem_cons_succ, Act.put, List.setIfInBounds_toArray, List.set_cons_zero, List.set_cons_succ]
          refine wpAnyL_one (i := 10) (by kernel_rfl) rfl (fun K hK => ?_)
          go_simp
          refine hK.out _ _ (fun h => absurd rfl h) (fun _ => ?_)
          refine wpAnyL_done (by kernel_rfl) ?_ _
          clear hK K
          go_wp2_with fail
          go_roundw
          case rel => exact ⟨k + 1, _, by omega, by go_num, HPU, HNN, hb.trans hbn⟩
          case measure => simp [intOf]; omega
        · go_simp
          have HG0 : Hid (SlAt encI 1 0 ((wr.drew.alloc (.cells #[] 3)).alloc (.cells #[.int .i64 (lo + (k : Int))] 3)) (some ⟨wr.heap.size + 1, 0, none⟩) 1 [lo + (k : Int)]) := Lib.hid (sl_new encI_len (by simp) rfl rfl)
          refine hK.out _ _ (fun _ => HS.out _ (by (repeat first | with_reducible assumption | with_reducible exact Below.refl _ _ | (with_reducible refine Below.alloc ?_ ?side _; case side => (first | omega | (with_reducible exact Below.size (by assumption)) | (simp; done) | (simp; omega))) | (with_reducible refine Below.setCell ?_ ?side _; case side => (first | omega | (with_reducible exact Below.size (by assumption)) | (simp; done) | (simp; omega))) | with_reducible refine Below.drew ?_ | with_reducible refine below_drewN ?_ _ | (with_reducible refine below_step (by assumption) ?side ?_; case side => (first | omega | (with_reducible exact Below.size (by assumption)) | (simp; done) | (simp; omega)))))) (fun hS' => ?_)
          clear hK K hS'
          try simp only [List.getElem_toArray, List.getElem_cons_zero, List.getElem_cons_succ, Act.put, List.setIfInBounds_toArray, List.set_cons_zero, List.set_cons_succ]
          refine wpAnyL_one (i := 4) (by kernel_rfl) rfl (fun K hK => ?_)
          refine step_append_T _ (d := (0 : Int)) rfl (.tmp 35) (.tmp 36) _ rfl wr.heap.size _ 1 8 int4E encI_len encI_one (.slice (some ⟨wr.heap.size, 0, none⟩) 0 0) (some (wr.heap.size)) 0 [] rfl rfl ((own_empty (w := wr.drew) (base := wr.heap.size) (by go_size) rfl).alloc _) FA ns cs l rfl (ints_iff.1 (HSI.out.later (hbw.trans (by have := hbw.size; (repeat first | with_reducible assumption | with_reducible exact Below.refl _ _ | (with_reducible refine Below.alloc ?_ ?side _; case side => (first | omega | (with_reducible exact Below.size (by assumption)) | (simp; done) | (simp; omega))) | (with_reducible refine Below.setCell ?_ ?side _; case side => (first | omega | (with_reducible exact Below.size (by assumption)) | (simp; done) | (simp; omega))) | with_reducible refine Below.drew ?_ | with_reducible refine below_drewN ?_ _ | (with_reducible refine below_step (by assumption) ?side ?_; case side => (first | omega | (with_reducible exact Below.size (by assumption)) | (simp; done) | (simp; omega)))))))) (by omega) (by go_size) (fun v9 w9 ho9 hg9 ha9 => ?_)
          rw [Nat.zero_add, List.nil_append] at ho9
          obtain ⟨A9, c9, rfl, -, hs9⟩ := SlAt.of_own (d := (0 : Int)) encI_len ho9 (hll)
          have hb9 : Below wr.heap.size wr w9 := Below.grown (by (repeat first | with_reducible assumption | with_reducible exact Below.refl _ _ | (with_reducible refine Below.alloc ?_ ?side _; case side => (first | omega | (with_reducible exact Below.size (by assumption)) | (simp; done) | (simp; omega))) | (with_reducible refine Below.setCell ?_ ?side _; case side => (first | omega | (with_reducible exact Below.size (by assumption)) | (simp; done) | (simp; omega))) | with_reducible refine Below.drew ?_ | with_reducible refine below_drewN ?_ _ | (with_reducible refine below_step (by assumption) ?side ?_; case side => (first | omega | (with_reducible exact Below.size (by assumption)) | (simp; done) | (simp; omega))))) hg9 (by go_size) (fun g hg => by cases hg; first | exact Nat.le_refl _ | omega)
          refine hK.out _ _ (fun _ => HS.out w9 (hb9.mono zb)) (fun hS' => ?_)
          obtain ⟨Wc, hWc⟩ : ∃ Z, w9 = Z := ⟨_, rfl⟩
          rw [hWc] at hb9 ho9 hg9 ⊢
          have hbc := hb9
          have HOc := Lib.hid ho9
          have HGc : Hid (SlAt encI 1 0 Wc (some ⟨wr.heap.size + 1, 0, none⟩) 1 [lo + (k : Int)]) := Lib.hid (ints_iff.1 (IntsAt.grown (ints_iff.2 HG0.out) hg9 (fun a ha e => by cases ha; have := Option.some.inj e; simp at this)))
          obtain ⟨gg, hgg⟩ : ∃ g, wr.heap.size + 1 = g := ⟨_, rfl⟩
          rw [hgg] at HGc ⊢
          clear hK K hS' hg9 ha9 hs9 hWc hb9 ho9 hgg HG0
          try simp only [List.getElem_toArray, List.getElem_cons_zero, List.getElem_cons_succ, Act.put, List.setIfInBounds_toArray, List.set_cons_zero, List.set_cons_succ]
          refine wpAnyL_one (i := 7) (by kernel_rfl) rfl (fun K hK => ?_)
          refine step_append_T _ (d := (0 : Int)) rfl (.tmp 37) (.tmp 39) _ rfl wr.heap.size _ 1 8 int4E encI_len encI_one (.slice A9 ns c9) ((Value.slice A9 ns c9).ownBlock) ns l rfl rfl HOc.out (some ⟨gg, 0, none⟩) 1 1 [lo + (k : Int)] rfl HGc.out (by omega) (by have := hbc.size; omega) (fun v10 w10 ho10 hg10 ha10 => ?_)
          have hl1 : (l ++ [lo + (k : Int)]).length = ns + 1 := by simp [hll]
          obtain ⟨A10, c10, rfl, -, hs10⟩ := SlAt.of_own (d := (0 : Int)) encI_len ho10 hl1
          have hb10 : Below wr.heap.size Wc w10 := Below.grown (Below.refl _ _) hg10 hbc.size (own_ge HOc.out)
          have hbt : Below wr.heap.size wr w10 := hbc.trans hb10
          have hA10 := Lib.hid (fun a e => own_addr ho10 a e)
          have hI10 : Hid (IntsAt w10 A10 (ns + 1) ((l ++ [lo + (k : Int)]))) := Lib.hid (ints_iff.2 hs10)
          refine hK.out _ _ (fun _ => HS.out w10 (hbt.mono zb)) (fun hS' => ?_)
          clear hK K hS' hg10 ha10 ho10 hs10 hl1 hb10
          try simp only [List.getElem_toArray, List.getElem_cons_zero, List.getElem_cons_succ, Act.put, List.setIfInBounds_toArray, List.set_cons_zero, List.set_cons_succ]
          have zt := hbt.size
          refine wpAnyL_one (i := 8) (by kernel_rfl) rfl (fun K hK => ?_)
          go_simp
          go_at_call 69
          refine (ihk.out A10 c10 w10 (hbw.trans (hbt.mono (by omega))) hI10.out (fun a e => (hA10.out a e).2)).mono ?_
          rintro e w11 ⟨A11, c11, hs11, rfl, hss, hin, hb11⟩
          have hbt11 : Below wr.heap.size wr w11 := hbt.trans (hb11.mono zt)
          refine hK.out _ _ (fun _ => HS.out w11 (hbt11.mono zb)) (fun hS' => ?_)
          clear hK K hS'
          try simp only [List.getElem_toArray, List.getElem_cons_zero, List.getElem_cons_succ, Act.put, List.setIfInBounds_toArray, List.set_cons_zero, List.set_cons_succ]
          have z11 := hb11.size
          have HIN : Hid (∀ j, j < LN.length → ∀ a, (hAt hs11 j).A = some a → wr.heap.size ≤ a.block ∧ a.block < w11.heap.size) := Lib.hid fun j hj a ha => ⟨by
            rcases hin j hj a ha with h | h
            · omega
            · exact (hA10.out a h).1, hss.bd j hj a ha⟩
          refine wpAnyL_one (i := 9) (by kernel_rfl) rfl (fun K hK => ?_)
          refine step_append_T _ (d := (⟨none, 0, 0⟩ : Hd)) rfl (.tmp 33) (.tmp 41) _ rfl w1.heap.size _ 1 24 slcE1 encH_len encH_one u5 u5.ownBlock n1 hs rfl rfl (own_below HO.out.own hbt11) A11 LN.length c11 hs11 rfl hss.sl (by omega) (by omega) (fun v12 w12 ho12 hg12 ha12 => ?_)
          have hb12 : Below w1.heap.size w11 w12 := Below.grown (Below.refl _ _) hg12 (by omega) (own_ge HO.out.own)
          have hbn : Below w1.heap.size wr w12 := (hbt11.mono zb).trans hb12
          have HPU : Hid (OwnSs w1.heap.size 37 w12 v12 (wkL rods ns p l lo (k + 1)).length (hs ++ hs11) (wkL rods ns p l lo (k + 1))) := Lib.hid (by
            rw [HK1.out, List.length_append, HN1.out]
            exact (HO.out.later hbt11).app hss.sl.1 (by simp) hss.inn (fun j hj a ha => ⟨fun e' => by have h2 := (HO.out.own.lt _ e').2; have h3 := (HIN.out j hj a ha).1; omega, (HIN.out j hj a ha).2⟩) ho12 hg12 ha12)
          have HNN : Hid (∀ j, j < (wkL rods ns p l lo (k + 1)).length → ∀ a, (hAt (hs ++ hs11) j).A = some a → w1.heap.size ≤ a.block) := Lib.hid (by
            rw [HK1.out, List.length_append, HN1.out]
            intro j hj a ha
            rcases Nat.lt_or_ge j n1 with h' | h'
            · rw [hAt_lo (by rw [HO.out.hl]; exact h')] at ha
              exact HN.out j h' a ha
            · obtain ⟨i, rfl⟩ := Nat.exists_eq_add_of_le h'
              have e1 := hAt_ge (hs := hs) (hs' := hs11) (k := i)
              rw [HO.out.hl] at e1
              rw [e1] at ha
              have := (HIN.out i (by omega) a ha).1
              omega)
          refine hK.out _ _ (fun _ => HS.out w12 hbn) (fun hS' => ?_)
          clear hK K hS' ho12 hg12 ha12 hin
          try simp only [List.getElem_toArray, List.getElem_cons_zero, List.getElem_cons_succ, Act.put, List.setIfInBounds_toArray, List.set_cons_zero, List.set_cons_succ]
          refine wpAnyL_one (i := 10) (by kernel_rfl) rfl (fun K hK => ?_)
          go_simp
          refine hK.out _ _ (fun h => absurd rfl h) (fun _ => ?_)
          refine wpAnyL_done (by kernel_rfl) ?_ _
          clear hK K
          go_wp2_with fail
          go_roundw
          case rel => exact ⟨k + 1, _, by omega, by go_num, HPU, HNN, hb.trans hbn⟩
          case measure => simp [intOf]; omega
      · go_simp
        refine hK.out _ _ (fun _ => HS.out _ (by (repeat first | with_reducible assumption | with_reducible exact Below.refl _ _ | (with_reducible refine Below.alloc ?_ ?side _; case side => (first | omega | (with_reducible exact Below.size (by assumption)) | (simp; done) | (simp; omega))) | (with_reducible refine Below.setCell ?_ ?side _; case side => (first | omega | (with_reducible exact Below.size (by assumption)) | (simp; done) | (simp; omega))) | with_reducible refine Below.drew ?_ | with_reducible refine below_drewN ?_ _ | (with_reducible refine below_step (by assumption) ?side ?_; case side => (first | omega | (with_reducible exact Below.size (by assumption)) | (simp; done) | (simp; omega)))))) (fun hS' => ?_)
        clear hK K hS'
        try simp only [List.getElem_toArray, List.getElem_cons_zero, List.getElem_cons_succ, Act.put, List.setIfInBounds_toArray, List.set_cons_zero, List.set_cons_succ]
        have HG0 : Hid (SlAt encI 1 0 (wr.drew.alloc (.cells #[.int .i64 (lo + (k : Int))] 3)) (some ⟨wr.heap.size, 0, none⟩) 1 [lo + (k : Int)]) := Lib.hid (sl_new encI_len rfl rfl rfl)
        refine wpAnyL_one (i := 2) (by kernel_rfl) rfl (fun K hK => ?_)
        go_simp
        refine hK.out _ _ (fun _ => HS.out _ (by (repeat first | with_reducible assumption | with_reducible exact Below.refl _ _ | (with_reducible refine Below.alloc ?_ ?side _; case side => (first | omega | (with_reducible exact Below.size (by assumption)) | (simp; done) | (simp; omega))) | (with_reducible refine Below.setCell ?_ ?side _; case side => (first | omega | (with_reducible exact Below.size (by assumption)) | (simp; done) | (simp; omega))) | with_reducible refine Below.drew ?_ | with_reducible refine below_drewN ?_ _ | (with_reducible refine below_step (by assumption) ?side ?_; case side => (first | omega | (with_reducible exact Below.size (by assumption)) | (simp; done) | (simp; omega)))))) (fun hS' => ?_)
        clear hK K hS'
        try simp only [List.getElem_toArray, List.getElem_cons_zero, List.getElem_cons_succ, Act.put, List.setIfInBounds_toArray, List.set_cons_zero, List.set_cons_succ]
        refine wpAnyL_one (i := 4) (by kernel_rfl) rfl (fun K hK => ?_)
        refine step_append_T _ (d := (0 : Int)) rfl (.tmp 35) (.tmp 36) _ rfl wr.heap.size _ 1 8 int4E encI_len encI_one (.slice (some ⟨wr.heap.size + 1, 0, none⟩) 0 0) (some (wr.heap.size + 1)) 0 [] rfl rfl (own_empty (by simp) (by simp)) FA ns cs l rfl (ints_iff.1 (HSI.out.later (hbw.trans (by have := hbw.size; (repeat first | with_reducible assumption | with_reducible exact Below.refl _ _ | (with_reducible refine Below.alloc ?_ ?side _; case side => (first | omega | (with_reducible exact Below.size (by assumption)) | (simp; done) | (simp; omega))) | (with_reducible refine Below.setCell ?_ ?side _; case side => (first | omega | (with_reducible exact Below.size (by assumption)) | (simp; done) | (simp; omega))) | with_reducible refine Below.drew ?_ | with_reducible refine below_drewN ?_ _ | (with_reducible refine below_step (by assumption) ?side ?_; case side => (first | omega | (with_reducible exact Below.size (by assumption)) | (simp; done) | (simp; omega)))))))) (by omega) (by go_size) (fun v9 w9 ho9 hg9 ha9 => ?_)
        rw [Nat.zero_add, List.nil_append] at ho9
        obtain ⟨A9, c9, rfl, -, hs9⟩ := SlAt.of_own (d := (0 : Int)) encI_len ho9 (hll)
        have hb9 : Below wr.heap.size wr w9 := Below.grown (by (repeat first | with_reducible assumption | with_reducible exact Below.refl _ _ | (with_reducible refine Below.alloc ?_ ?side _; case side => (first | omega | (with_reducible exact Below.size (by assumption)) | (simp; done) | (simp; omega))) | (with_reducible refine Below.setCell ?_ ?side _; case side => (first | omega | (with_reducible exact Below.size (by assumption)) | (simp; done) | (simp; omega))) | with_reducible refine Below.drew ?_ | with_reducible refine below_drewN ?_ _ | (with_reducible refine below_step (by assumption) ?side ?_; case side => (first | omega | (with_reducible exact Below.size (by assumption)) | (simp; done) | (simp; omega))))) hg9 (by go_size) (fun g hg => by cases hg; first | exact Nat.le_refl _ | omega)
        refine hK.out _ _ (fun _ => HS.out w9 (hb9.mono zb)) (fun hS' => ?_)
        obtain ⟨Wc, hWc⟩ : ∃ Z, w9 = Z := ⟨_, rfl⟩
        rw [hWc] at hb9 ho9 hg9 ⊢
        have hbc := hb9
        have HOc := Lib.hid ho9
        have HGc : Hid (SlAt encI 1 0 Wc (some ⟨wr.heap.size, 0, none⟩) 1 [lo + (k : Int)]) := Lib.hid (ints_iff.1 (IntsAt.grown ((ints_iff.2 HG0.out).later ((Below.refl _ _).alloc (Nat.le_refl _) _)) hg9 (fun a ha e => by cases ha; have := Option.some.inj e; simp at this)))
        clear hK K hS' hg9 ha9 hs9 hWc hb9 ho9 HG0
        try simp only [List.getElem_toArray, List.getElem_cons_zero, List.getElem_cons_succ, Act.put, List.setIfInBounds_toArray, List.set_cons_zero, List.set_cons_succ]
        refine wpAnyL_one (i := 7) (by kernel_rfl) rfl (fun K hK => ?_)
        refine step_append_T _ (d := (0 : Int)) rfl (.tmp 37) (.tmp 39) _ rfl wr.heap.size _ 1 8 int4E encI_len encI_one (.slice A9 ns c9) ((Value.slice A9 ns c9).ownBlock) ns l rfl rfl HOc.out (some ⟨wr.heap.size, 0, none⟩) 1 1 [lo + (k : Int)] rfl HGc.out (by omega) (by have := hbc.size; omega) (fun v10 w10 ho10 hg10 ha10 => ?_)
        have hl1 : (l ++ [lo + (k : Int)]).length = ns + 1 := by simp [hll]
        obtain ⟨A10, c10, rfl, -, hs10⟩ := SlAt.of_own (d := (0 : Int)) encI_len ho10 hl1
        have hb10 : Below wr.heap.size Wc w10 := Below.grown (Below.refl _ _) hg10 hbc.size (own_ge HOc.out)
        have hbt : Below wr.heap.size wr w10 := hbc.trans hb10
        have hA10 := Lib.hid (fun a e => own_addr ho10 a e)
        have hI10 : Hid (IntsAt w10 A10 (ns + 1) ((l ++ [lo + (k : Int)]))) := Lib.hid (ints_iff.2 hs10)
        refine hK.out _ _ (fun _ => HS.out w10 (hbt.mono zb)) (fun hS' => ?_)
        clear hK K hS' hg10 ha10 ho10 hs10 hl1 hb10
        try simp only [List.getElem_toArray, List.getElem_cons_zero, List.getElem_cons_succ, Act.put, List.setIfInBounds_toArray, List.set_cons_zero, List.set_cons_succ]
        have zt := hbt.size
        refine wpAnyL_one (i := 8) (by kernel_rfl) rfl (fun K hK => ?_)
        go_simp
        go_at_call 69
        refine (ihk.out A10 c10 w10 (hbw.trans (hbt.mono (by omega))) hI10.out (fun a e => (hA10.out a e).2)).mono ?_
        rintro e w11 ⟨A11, c11, hs11, rfl, hss, hin, hb11⟩
        have hbt11 : Below wr.heap.size wr w11 := hbt.trans (hb11.mono zt)
        refine hK.out _ _ (fun _ => HS.out w11 (hbt11.mono zb)) (fun hS' => ?_)
        clear hK K hS'
        try simp only [List.getElem_toArray, List.getElem_cons_zero, List.getElem_cons_succ, Act.put, List.setIfInBounds_toArray, List.set_cons_zero, List.set_cons_succ]
        have z11 := hb11.size
        have HIN : Hid (∀ j, j < LN.length → ∀ a, (hAt hs11 j).A = some a → wr.heap.size ≤ a.block ∧ a.block < w11.heap.size) := Lib.hid fun j hj a ha => ⟨by
          rcases hin j hj a ha with h | h
          · omega
          · exact (hA10.out a h).1, hss.bd j hj a ha⟩
        refine wpAnyL_one (i := 9) (by kernel_rfl) rfl (fun K hK => ?_)
        refine step_append_T _ (d := (⟨none, 0, 0⟩ : Hd)) rfl (.tmp 33) (.tmp 41) _ rfl w1.heap.size _ 1 24 slcE1 encH_len encH_one u5 u5.ownBlock n1 hs rfl rfl (own_below HO.out.own hbt11) A11 LN.length c11 hs11 rfl hss.sl (by omega) (by omega) (fun v12 w12 ho12 hg12 ha12 => ?_)
        have hb12 : Below w1.heap.size w11 w12 := Below.grown (Below.refl _ _) hg12 (by omega) (own_ge HO.out.own)
        have hbn : Below w1.heap.size wr w12 := (hbt11.mono zb).trans hb12
        have HPU : Hid (OwnSs w1.heap.size 37 w12 v12 (wkL rods ns p l lo (k + 1)).length (hs ++ hs11) (wkL rods ns p l lo (k + 1))) := Lib.hid (by
          rw [HK1.out, List.length_append, HN1.out]
          exact (HO.out.later hbt11).app hss.sl.1 (by simp) hss.inn (fun j hj a ha => ⟨fun e' => by have h2 := (HO.out.own.lt _ e').2; have h3 := (HIN.out j hj a ha).1; omega, (HIN.out j hj a ha).2⟩) ho12 hg12 ha12)
        have HNN : Hid (∀ j, j < (wkL rods ns p l lo (k + 1)).length → ∀ a, (hAt (hs ++ hs11) j).A = some a → w1.heap.size ≤ a.block) := Lib.hid (by
          rw [HK1.out, List.length_append, HN1.out]
          intro j hj a ha
          rcases Nat.lt_or_ge j n1 with h' | h'
          · rw [hAt_lo (by rw [HO.out.hl]; exact h')] at ha
            exact HN.out j h' a ha
          · obtain ⟨i, rfl⟩ := Nat.exists_eq_add_of_le h'
            have e1 := hAt_ge (hs := hs) (hs' := hs11) (k := i)
            rw [HO.out.hl] at e1
            rw [e1] at ha
            have := (HIN.out i (by omega) a ha).1
            omega)
        refine hK.out _ _ (fun _ => HS.out w12 hbn) (fun hS' => ?_)
        clear hK K hS' ho12 hg12 ha12 hin
        try simp only [List.getElem_toArray, List.getElem_cons_zero, List.getElem_cons_succ, Act.put, List.setIfInBounds_toArray, List.set_cons_zero, List.set_cons_succ]
        refine wpAnyL_one (i := 10) (by kernel_rfl) rfl (fun K hK => ?_)
        go_simp
        refine hK.out _ _ (fun h => absurd rfl h) (fun _ => ?_)
        refine wpAnyL_done (by kernel_rfl) ?_ _
        clear hK K
        go_wp2_with fail
        go_roundw
        case rel => exact ⟨k + 1, _, by omega, by go_num, HPU, HNN, hb.trans hbn⟩
        case measure => simp [intOf]; omega

    · obtain rfl : N = k := by omega
      have hqB : decide (lo + ((N : Nat) : Int) ≤ lg) = false := decide_eq_false (by omega)
      obtain ⟨A3, c3, rfl, hss3⟩ := HO.out.ss
      have HS3 := Lib.hid hss3
      have hzz := hb.size
      clear hss3 HO nn ll
      go_wp2_with fail
      exact bodyPost_ret (v := .slice A3 (wkL rods ns p l lo N).length c3) (by simp [results, Try.results69, go_sem]) rfl ⟨A3, c3, hs, rfl, HS3.out, fun j hj a ha => .inl (by have := HN.out j hj a ha; have := BW.size; omega), hbw⟩
theorem refworn4_c (hn4 : nr ≤ 4) (hwe : ∀ k, (roAt rods k).we ≤ 9) (hro : ∀ k, k < nr → (1 ≤ (roAt rods k).lg ∧ (roAt rods k).lg ≤ 9999) ∧ (0 ≤ (roAt rods k).we ∧ (roAt rods k).we ≤ 9)) : ∀ (p : Nat) (FA : Option Addr) (ns cs : Nat) (l : List Int) (w : World), l.length = ns → ns + p = nr → RosAt w Ar nr rods → IntsAt w FA ns l → (∀ a, FA = some a → a.block < w.heap.size) →
    Calls Try.prog 69 #[.agg #[.int .i64 ir, .int .i64 glo, .int .i64 ghi, .slice Ar nr cr, .slice Ad nd cd, .int .i64 wrg], .slice FA ns cs] w (WoRet FA (woL rods ns p l) w) := by
  intro p
  induction p with
  | zero =>
    intro FA ns cs l w hll hnp HR HS hA
    obtain rfl : ns = nr := by omega
    exact refworn4_0 Ar ns cr Ad nd cd ir glo ghi wrg FA cs l w hll HS hA
  | succ p ih =>
    intro FA ns cs l w hll hnp HR HS hA
    exact refworn4_s Ar nr cr Ad nd cd ir glo ghi wrg rods p FA ns cs l w hn4 hwe (hro ns (by omega)) hll hnp HR HS (Lib.hid fun A c x V hV hI hA' => ih A (ns + 1) c (l ++ [x]) V (by simp [hll]) (by omega) (HR.later hV) hI hA')
end

end Go.Proofs.Ytmmgkmdfecnkdaa
