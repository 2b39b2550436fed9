/- RepairsFewest (layer 7): the walk. -/
import Derived.Test.YthjjakhmbgnnnaaRa7
import Derived.Test.YthjjakhmbgnnnaaRk7
import Derived.Test.YthjjakhmbgnnnaaCp7
namespace Go.Proofs.Ythjjakhmbgnnnaa
open Go.RowKit
open Go.Sort (grow)
set_option linter.unusedVariables false

theorem isR_mem (y n : Nat) : isR n (memN y n).length (ints (memN y n)) = true := by
  have hm : ∀ i ∈ memN y n, i < n := fun i hi => by simp [memN, List.mem_filter] at hi; exact hi.1
  have hp : (memN y n).Pairwise (· < ·) := List.Pairwise.filter _ List.pairwise_lt_range
  refine allN_iff.2 fun k hk => ?_
  unfold stO
  rw [Bool.and_eq_true, ints_at (List.getElem?_eq_getElem hk)]
  refine ⟨wi_true.2 ?_, ?_⟩
  · have := hm _ (List.getElem_mem hk); omega
  · rw [Bool.not_eq_true', Bool.and_eq_false_iff]
    by_cases h0 : 0 < k
    · right
      rw [ints_at (List.getElem?_eq_getElem (show k - 1 < (memN y n).length by omega))]
      have := List.pairwise_iff_getElem.1 hp (k - 1) k (by omega) hk (by omega)
      simp; omega
    · left; simp; omega
theorem pl_vals (n : Nat) (ls : List Sp) (q : Cb) : (∃ z, z ≠ 0 ∧ erS n ls q = z ∧ plC n ls q = []) ∨ (erS n ls q = 0 ∧ ∃ y, plC n ls q = memN y n ∧ goodB q ls n y = true) := by
  rcases er_shC n ls q with ⟨h, a, b⟩ | ⟨h, a, b, d⟩ | ⟨h, a, b, y, r, d, e⟩
  · exact .inl ⟨70, by omega, a, by unfold plC; rw [h]; rfl⟩
  · exact .inl ⟨3, by omega, a, by unfold plC; rw [h, d]; rfl⟩
  · refine .inr ⟨a, y, e, ?_⟩
    exact (shL_mem (q := q) (ls := ls) (n := n) (x := y) (by rw [d]; simp)).1.2
set_option maxRecDepth 100000 in
set_option maxHeartbeats 6400000 in
theorem FewestLaw_c (A : Option Addr) (n c : Nat) (q : Cb) (ls : List Sp) (w : World) (hq : CbOk q) (HL : SpsAt w A n ls) (hn : n ≤ 9223372036854775807) :
    Calls Try.prog 9 #[.agg #[.slice A n c, .int .i64 q.need, .int .i64 q.gap, .int .i64 q.doubt, .int .i64 q.joins, .int .i64 q.least]] w
      fun e w' => e = .returned (.bool true) ∧ Below w.heap.size w w' := by
  have hwk := Lib.hid works_c
  have HLI := Lib.hid HL
  have HQ := Lib.hid hq
  have hfr : ∀ Z, Below w.heap.size w Z → Calls Try.prog 22 #[.agg #[.slice A n c, .int .i64 q.need, .int .i64 q.gap, .int .i64 q.doubt, .int .i64 q.joins, .int .i64 q.least]] Z fun e Z' => e = .returned (.bool (farC n ls q)) ∧ Below Z.heap.size Z Z' := fun Z hZ => Far_c A n c q ls Z (HLI.out.later hZ)
  clear HL hq
  cases hfa : farC n ls q
  · have hn40 : n ≤ 40 := by
      simp only [farC, Bool.or_eq_false_iff, decide_eq_false_iff_not] at hfa
      have := hfa.1
      omega
    rw [hfa] at hfr
    replace hfr := Lib.hid hfr
    clear hfa hn
    have hml := mu_len n ls q
    have hsl := sp_len n ls q
    have hsame : ∀ (B C : Option Addr) (c d m : Nat) (l : List Int) V, m ≤ 40 → IntsAt V B m l → IntsAt V C m l → Calls Try.prog 35 #[.slice B m c, .slice C m d] V fun e V' => e = .returned (.bool true) ∧ Below V.heap.size V V' := fun B C c d m l V hm h1 h2 => by
      have := SameInts_c B C m m c d l l V hm hm h1 h2
      rwa [show (m == m && allN m fun k => iAt l k == iAt l k) = true by rw [allN_iff.2 fun k _ => by simp]; simp] at this
    replace hsame := Lib.hid hsame
    obtain ⟨E, hE⟩ : ∃ E, erS n ls q = E := ⟨_, rfl⟩
    obtain ⟨F, hF⟩ : ∃ E, plC n ls q = E := ⟨_, rfl⟩
    obtain ⟨MU, hMU⟩ : ∃ E, muL n ls q = E := ⟨_, rfl⟩
    obtain ⟨SP, hSP⟩ : ∃ E, spL n ls q = E := ⟨_, rfl⟩
    have hpv := pl_vals n ls q
    rw [hE, hF] at hpv
    rw [hMU] at hml
    rw [hSP] at hsl
    have hfl : F.length ≤ n := by
      rcases hpv with ⟨_, _, _, e⟩ | ⟨_, y, e, _⟩
      · rw [e]; simp
      · rw [e]; exact mem_len y n
    obtain ⟨f, hf⟩ : ∃ f, F.length = f := ⟨_, rfl⟩
    obtain ⟨mm, hmm⟩ : ∃ f, MU.length = f := ⟨_, rfl⟩
    obtain ⟨sm, hsm⟩ : ∃ f, SP.length = f := ⟨_, rfl⟩
    rw [hf] at hfl
    rw [hmm] at hml
    rw [hsm] at hsl
    have HV := Lib.hid hpv
    have HFL := Lib.hid hf
    go_enter Try.func9, Try.ntmps9
    go_wp2_with fail
    obtain ⟨X, hX⟩ : ∃ X, w.alloc (.cells #[.slice A n c, .int .i64 q.need, .int .i64 q.gap, .int .i64 q.doubt, .int .i64 q.joins, .int .i64 q.least] 24) = X := ⟨_, rfl⟩
    rw [hX]
    have BX : Below w.heap.size w X := (al1 hX).1
    have zX : X.heap.size = w.heap.size + 1 := (al1 hX).2
    have P0 := Lib.hid (al1_0 hX).2.1
    have zw : w.heap.size ≤ X.heap.size := by omega
    have n0 : w.heap.size < X.heap.size := by omega
    clear hX
    refine (hfr.out X BX).mono ?_
    rintro e w1 ⟨rfl, hb1⟩
    have b1 := hb1
    have z1 := b1.size
    clear hb1
    have c1_0 := fun j => (b1.cell (p := ⟨w.heap.size, j, none⟩) n0).trans (P0.out j)
    have m1 : w.heap.size < w1.heap.size := by omega
    clear hpv
    have HEq := Lib.hid (And.intro hE (And.intro hF (And.intro hMU (And.intro hSP (And.intro hf (And.intro hmm hsm))))))
    clear hE hF hMU hSP hf hmm hsm
    go_wp2_with fail
    refine (Copy_c A n c q ls w1 hn40 (HLI.out.later (BX.trans (b1.mono zw)))).mono ?_
    rintro e w2 ⟨A1, k1, rfl, hO, hb2⟩
    have HO := Lib.hid hO
    have b2 := Lib.hid hb2
    have z2 := hb2.size
    clear hO hb2 c1_0
    go_upto_region 4 with (fail)
    go_name_world Y hY
    have bY := (al1 hY).1
    have N2 := (al1_0 hY).1
    have C2 := Lib.hid (al1_0 hY).2.1
    have BXY : Below X.heap.size X Y := b1.trans ((b2.out.trans (bY.mono z2)).mono z1)
    have C0 := Lib.hid (fun j => (BXY.cell (p := ⟨w.heap.size, j, none⟩) n0).trans (P0.out j))
    have N0 : w.heap.size < Y.heap.size := Nat.lt_of_lt_of_le n0 BXY.size
    have BW : Below w.heap.size w Y := BX.trans (BXY.mono zw)
    have zc := BW.size
    have SPO : SpsAt Y A1 n ls := (sps_iff.2 (sl_of_own encS_len HO.out HLI.out.1)).later bY
    have SPC : SpsAt Y A n ls := HLI.out.later BW
    have b0 : Below Y.heap.size Y Y := Below.refl _ _
    obtain ⟨hE, hF, hMU, hSP, hf, hmm, hsm⟩ := HEq.out
    have hfo : ∀ V, Below Y.heap.size Y V → Calls Try.prog 17 #[.agg #[.slice A1 n k1, .int .i64 q.need, .int .i64 q.gap, .int .i64 q.doubt, .int .i64 q.joins, .int .i64 q.least]] V fun e V' => e = .returned (.tuple #[.int .i64 (f : Nat), .int .i64 E]) ∧ Below V.heap.size V V' := fun V hV => by rw [← hf, ← hF, ← hE]; exact fewest_c A1 n k1 q ls V hn40 HQ.out (SPO.later hV)
    have hfc : ∀ V, Below Y.heap.size Y V → Calls Try.prog 36 #[.agg #[.slice A n c, .int .i64 q.need, .int .i64 q.gap, .int .i64 q.doubt, .int .i64 q.joins, .int .i64 q.least]] V fun e V' => e = .returned (.tuple #[.int .i64 (f : Nat), .int .i64 E]) ∧ Below V.heap.size V V' := fun V hV => by rw [← hf, ← hF, ← hE]; exact refFewest_c A n c q ls V hn40 (SPC.later hV)
    have hli : ∀ (L : List Nat) (g : Nat) (z : Int) (V : World) (e : Ending) (V' : World), L.length = g → LiRet L z V e V' → ∃ A c, e = .returned (.tuple #[.slice A g c, .int .i64 z]) ∧ IntsAt V' A g (ints L) ∧ Below V.heap.size V V' := fun L g z V e V' h h' => by subst h; exact h'
    have hmo : ∀ V, Below Y.heap.size Y V → Calls Try.prog 37 #[.agg #[.slice A1 n k1, .int .i64 q.need, .int .i64 q.gap, .int .i64 q.doubt, .int .i64 q.joins, .int .i64 q.least]] V fun e V' => ∃ A c, e = .returned (.tuple #[.slice A mm c, .int .i64 E]) ∧ IntsAt V' A mm (ints MU) ∧ Below V.heap.size V V' := fun V hV => (Must_c A1 n k1 q ls V hn40 HQ.out (SPO.later hV)).mono fun e V' h => by rw [hMU, hE] at h; exact hli _ _ _ _ _ _ hmm h
    have hmc : ∀ V, Below Y.heap.size Y V → Calls Try.prog 38 #[.agg #[.slice A n c, .int .i64 q.need, .int .i64 q.gap, .int .i64 q.doubt, .int .i64 q.joins, .int .i64 q.least]] V fun e V' => ∃ A c, e = .returned (.tuple #[.slice A mm c, .int .i64 E]) ∧ IntsAt V' A mm (ints MU) ∧ Below V.heap.size V V' := fun V hV => (refMust_c A n c q ls V hn40 (SPC.later hV)).mono fun e V' h => by rw [hMU, hE] at h; exact hli _ _ _ _ _ _ hmm h
    have hso : ∀ V, Below Y.heap.size Y V → Calls Try.prog 39 #[.agg #[.slice A1 n k1, .int .i64 q.need, .int .i64 q.gap, .int .i64 q.doubt, .int .i64 q.joins, .int .i64 q.least]] V fun e V' => ∃ A c, e = .returned (.tuple #[.slice A sm c, .int .i64 E]) ∧ IntsAt V' A sm (ints SP) ∧ Below V.heap.size V V' := fun V hV => (Spared_c A1 n k1 q ls V hn40 HQ.out (SPO.later hV)).mono fun e V' h => by rw [hSP, hE] at h; exact hli _ _ _ _ _ _ hsm h
    have hsc : ∀ V, Below Y.heap.size Y V → Calls Try.prog 40 #[.agg #[.slice A n c, .int .i64 q.need, .int .i64 q.gap, .int .i64 q.doubt, .int .i64 q.joins, .int .i64 q.least]] V fun e V' => ∃ A c, e = .returned (.tuple #[.slice A sm c, .int .i64 E]) ∧ IntsAt V' A sm (ints SP) ∧ Below V.heap.size V V' := fun V hV => (refSpared_c A n c q ls V hn40 (SPC.later hV)).mono fun e V' h => by rw [hSP, hE] at h; exact hli _ _ _ _ _ _ hsm h
    have hpo : ∀ V, Below Y.heap.size Y V → Calls Try.prog 29 #[.agg #[.slice A1 n k1, .int .i64 q.need, .int .i64 q.gap, .int .i64 q.doubt, .int .i64 q.joins, .int .i64 q.least]] V fun e V' => ∃ A c, e = .returned (.tuple #[.slice A f c, .int .i64 E]) ∧ IntsAt V' A f (ints F) ∧ Below V.heap.size V V' := fun V hV => (Plan_c A1 n k1 q ls V hn40 HQ.out (SPO.later hV)).mono fun e V' h => by rw [hF, hE] at h; exact hli _ _ _ _ _ _ hf h
    have hsme : ∀ V, Below Y.heap.size Y V → Calls Try.prog 25 #[.agg #[.slice A1 n k1, .int .i64 q.need, .int .i64 q.gap, .int .i64 q.doubt, .int .i64 q.joins, .int .i64 q.least], .agg #[.slice A n c, .int .i64 q.need, .int .i64 q.gap, .int .i64 q.doubt, .int .i64 q.joins, .int .i64 q.least]] V fun e V' => e = .returned (.bool true) ∧ Below V.heap.size V V' := fun V hV => same_c A1 A n k1 c q ls V hn40 (SPO.later hV) (SPC.later hV)
    have hir : ∀ (B : Option Addr) (d : Nat) V, Below Y.heap.size Y V → IntsAt V B f (ints F) → Calls Try.prog 26 #[.agg #[.slice A n c, .int .i64 q.need, .int .i64 q.gap, .int .i64 q.doubt, .int .i64 q.joins, .int .i64 q.least], .slice B f d] V fun e V' => e = .returned (.bool (isR n f (ints F))) ∧ Below V.heap.size V V' := fun B d V hV h => IsRepair_c A B n c f d q _ V hn40 (by omega) h
    have hig : ∀ (y : Nat) (B : Option Addr) (d : Nat) V, F = memN y n → Below Y.heap.size Y V → IntsAt V B f (ints F) → Calls Try.prog 41 #[.agg #[.slice A n c, .int .i64 q.need, .int .i64 q.gap, .int .i64 q.doubt, .int .i64 q.joins, .int .i64 q.least], .slice B f d] V fun e V' => e = .returned (.bool (goodB q ls n y)) ∧ Below V.heap.size V V' := fun y B d V hy hV h => IsGood_c A B n c f d y q ls _ V hn40 (by omega) (SPC.later hV) h (by rw [← hf, hy]; exact bits_mem y n)
    replace hfo := Lib.hid hfo
    replace hfc := Lib.hid hfc
    replace hmo := Lib.hid hmo
    replace hmc := Lib.hid hmc
    replace hso := Lib.hid hso
    replace hsc := Lib.hid hsc
    replace hpo := Lib.hid hpo
    replace hsme := Lib.hid hsme
    replace hir := Lib.hid hir
    replace hig := Lib.hid hig
    have e1 : (f != f) = false := by simp
    have e1' : (((f : Nat) : Int) != ((f : Nat) : Int)) = false := by simp
    have e2 : (E != E) = false := by simp
    have e4 : decide ((40 : Int) < f) = false := by simp; omega
    clear hY bY BXY SPO SPC hE hF hMU hSP hf hmm hsm hli b1 b2 HO BX z1 m1
    have c0_0 := fun j => (b0.cell (p := ⟨w.heap.size, j, none⟩) N0).trans (C0.out j)
    have c0_2 := fun j => (b0.cell (p := ⟨w2.heap.size, j, none⟩) N2).trans (C2.out j)
    have z0 := b0.size
    go_wp2_with fail
    refine (hfo.out _ b0).mono ?_
    rintro e w3 ⟨rfl, hb3⟩
    have b3 : Below Y.heap.size Y w3 := b0.trans (hb3.mono z0)
    have s3 := Lib.hid hb3
    clear hb3 c0_0 c0_2 b0
    have c3_0 := fun j => (b3.cell (p := ⟨w.heap.size, j, none⟩) N0).trans (C0.out j)
    have c3_2 := fun j => (b3.cell (p := ⟨w2.heap.size, j, none⟩) N2).trans (C2.out j)
    have z3 := b3.size
    go_wp2_with fail
    refine (hfc.out _ b3).mono ?_
    rintro e w4 ⟨rfl, hb4⟩
    have b4 : Below Y.heap.size Y w4 := b3.trans (hb4.mono z3)
    have s4 := Lib.hid hb4
    clear hb4 c3_0 c3_2 b3
    have c4_0 := fun j => (b4.cell (p := ⟨w.heap.size, j, none⟩) N0).trans (C0.out j)
    have c4_2 := fun j => (b4.cell (p := ⟨w2.heap.size, j, none⟩) N2).trans (C2.out j)
    have z4 := b4.size
    go_wp2_with fail
    refine (hmo.out _ b4).mono ?_
    rintro e w5 ⟨A5, d5, rfl, hI, hb5⟩
    have I5 := Lib.hid hI
    have b5 : Below Y.heap.size Y w5 := b4.trans (hb5.mono z4)
    have s5 := Lib.hid hb5
    clear hb5 hI c4_0 c4_2 b4
    have c5_0 := fun j => (b5.cell (p := ⟨w.heap.size, j, none⟩) N0).trans (C0.out j)
    have c5_2 := fun j => (b5.cell (p := ⟨w2.heap.size, j, none⟩) N2).trans (C2.out j)
    have z5 := b5.size
    go_wp2_with fail
    refine (hmc.out _ b5).mono ?_
    rintro e w6 ⟨A6, d6, rfl, hI, hb6⟩
    have I6 := Lib.hid hI
    have b6 : Below Y.heap.size Y w6 := b5.trans (hb6.mono z5)
    have s6 := Lib.hid hb6
    clear hb6 hI c5_0 c5_2 b5
    have c6_0 := fun j => (b6.cell (p := ⟨w.heap.size, j, none⟩) N0).trans (C0.out j)
    have c6_2 := fun j => (b6.cell (p := ⟨w2.heap.size, j, none⟩) N2).trans (C2.out j)
    have z6 := b6.size
    go_wp2_with fail
    refine (hso.out _ b6).mono ?_
    rintro e w7 ⟨A7, d7, rfl, hI, hb7⟩
    have I7 := Lib.hid hI
    have b7 : Below Y.heap.size Y w7 := b6.trans (hb7.mono z6)
    have s7 := Lib.hid hb7
    clear hb7 hI c6_0 c6_2 b6
    have c7_0 := fun j => (b7.cell (p := ⟨w.heap.size, j, none⟩) N0).trans (C0.out j)
    have c7_2 := fun j => (b7.cell (p := ⟨w2.heap.size, j, none⟩) N2).trans (C2.out j)
    have z7 := b7.size
    go_wp2_with fail
    refine (hsc.out _ b7).mono ?_
    rintro e w8 ⟨A8, d8, rfl, hI, hb8⟩
    have I8 := Lib.hid hI
    have b8 : Below Y.heap.size Y w8 := b7.trans (hb8.mono z7)
    have s8 := Lib.hid hb8
    clear hb8 hI c7_0 c7_2 b7
    have c8_0 := fun j => (b8.cell (p := ⟨w.heap.size, j, none⟩) N0).trans (C0.out j)
    have c8_2 := fun j => (b8.cell (p := ⟨w2.heap.size, j, none⟩) N2).trans (C2.out j)
    have z8 := b8.size
    go_wp2_with fail
    refine (hpo.out _ b8).mono ?_
    rintro e w9 ⟨A9, d9, rfl, hI, hb9⟩
    have I9 := Lib.hid hI
    have b9 : Below Y.heap.size Y w9 := b8.trans (hb9.mono z8)
    have s9 := Lib.hid hb9
    clear hb9 hI c8_0 c8_2 b8
    have c9_0 := fun j => (b9.cell (p := ⟨w.heap.size, j, none⟩) N0).trans (C0.out j)
    have c9_2 := fun j => (b9.cell (p := ⟨w2.heap.size, j, none⟩) N2).trans (C2.out j)
    have z9 := b9.size
    have s79 := Lib.hid (s8.out.trans (s9.out.mono s8.out.size))
    have s69 := Lib.hid (s7.out.trans (s79.out.mono s7.out.size))
    have s59 := Lib.hid (s6.out.trans (s69.out.mono s6.out.size))
    go_wp2_with fail
    refine (hsame.out _ _ _ _ mm _ w9 (by omega) (I5.out.later s59.out) (I6.out.later s69.out)).mono ?_
    rintro e w10 ⟨rfl, hb10⟩
    have b10 : Below Y.heap.size Y w10 := b9.trans (hb10.mono z9)
    have s10 := Lib.hid hb10
    clear hb10 c9_0 c9_2 b9
    have c10_0 := fun j => (b10.cell (p := ⟨w.heap.size, j, none⟩) N0).trans (C0.out j)
    have c10_2 := fun j => (b10.cell (p := ⟨w2.heap.size, j, none⟩) N2).trans (C2.out j)
    have z10 := b10.size
    go_wp2_with fail
    refine (hsame.out _ _ _ _ sm _ w10 (by omega) (I7.out.later (s79.out.trans (s10.out.mono s79.out.size))) (I8.out.later (s9.out.trans (s10.out.mono s9.out.size)))).mono ?_
    rintro e w11 ⟨rfl, hb11⟩
    have b11 : Below Y.heap.size Y w11 := b10.trans (hb11.mono z10)
    have s11 := Lib.hid hb11
    clear hb11 c10_0 c10_2 b10
    have c11_0 := fun j => (b11.cell (p := ⟨w.heap.size, j, none⟩) N0).trans (C0.out j)
    have c11_2 := fun j => (b11.cell (p := ⟨w2.heap.size, j, none⟩) N2).trans (C2.out j)
    have z11 := b11.size
    go_wp2_with fail
    refine (hsme.out _ b11).mono ?_
    rintro e w12 ⟨rfl, hb12⟩
    have b12 : Below Y.heap.size Y w12 := b11.trans (hb12.mono z11)
    have s12 := Lib.hid hb12
    clear hb12 c11_0 c11_2 b11
    have c12_0 := fun j => (b12.cell (p := ⟨w.heap.size, j, none⟩) N0).trans (C0.out j)
    have c12_2 := fun j => (b12.cell (p := ⟨w2.heap.size, j, none⟩) N2).trans (C2.out j)
    have z12 := b12.size
    have s9c := Lib.hid (s10.out.trans ((s11.out.trans (s12.out.mono s11.out.size)).mono s10.out.size))
    have I9c := Lib.hid (I9.out.later s9c.out)
    rcases HV.out with ⟨z, hz, rfl, e⟩ | ⟨rfl, y, e, hg⟩
    · have hzB : (E != 0) = true := by simpa using hz
      have hf0 : f = 0 := by rw [← HFL.out, e]; rfl
      subst hf0
      clear e hz
      go_wp2_with fail
      refine (hwk.out _).mono ?_
      rintro e w99 ⟨rfl, hb99⟩
      go_wp2
      go_ret
      exact ⟨rfl, BW.trans (Below.mono (b12.trans (hb99.mono z12)) zc)⟩
    · have hir1 := hir.out A9 d9 w12 b12 I9c.out
      rw [show isR n f (ints F) = true by rw [← HFL.out, e]; exact isR_mem y n] at hir1
      replace hir1 := Lib.hid hir1
      have hig1 := fun V (hV : Below w12.heap.size w12 V) => hig.out y A9 d9 V e (b12.trans (hV.mono z12)) (I9c.out.later hV)
      rw [hg] at hig1
      replace hig1 := Lib.hid hig1
      have eff : (f == f) = true := by simp
      have eff' : (((f : Nat) : Int) == ((f : Nat) : Int)) = true := by simp
      clear e hg
      go_wp2_with fail
      refine hir1.out.mono ?_
      rintro e w13 ⟨rfl, hb13⟩
      have b13 : Below Y.heap.size Y w13 := b12.trans (hb13.mono z12)
      have s13 := Lib.hid hb13
      clear hb13 c12_0 c12_2 b12
      have c13_0 := fun j => (b13.cell (p := ⟨w.heap.size, j, none⟩) N0).trans (C0.out j)
      have c13_2 := fun j => (b13.cell (p := ⟨w2.heap.size, j, none⟩) N2).trans (C2.out j)
      have z13 := b13.size
      go_wp2_with fail
      refine (hig1.out _ s13.out).mono ?_
      rintro e w14 ⟨rfl, hb14⟩
      have b14 : Below Y.heap.size Y w14 := b13.trans (hb14.mono z13)
      have s14 := Lib.hid hb14
      clear hb14 c13_0 c13_2 b13
      have c14_0 := fun j => (b14.cell (p := ⟨w.heap.size, j, none⟩) N0).trans (C0.out j)
      have c14_2 := fun j => (b14.cell (p := ⟨w2.heap.size, j, none⟩) N2).trans (C2.out j)
      have z14 := b14.size
      go_wp2_with fail
      refine (hwk.out _).mono ?_
      rintro e w99 ⟨rfl, hb99⟩
      go_wp2
      go_ret
      exact ⟨rfl, BW.trans (Below.mono (b14.trans (hb99.mono z14)) zc)⟩
  · rw [hfa] at hfr
    replace hfr := Lib.hid hfr
    clear hfa hn
    go_enter Try.func9, Try.ntmps9
    go_wp2_with fail
    obtain ⟨X, hX⟩ : ∃ X, w.alloc (.cells #[.slice A n c, .int .i64 q.need, .int .i64 q.gap, .int .i64 q.doubt, .int .i64 q.joins, .int .i64 q.least] 24) = X := ⟨_, rfl⟩
    rw [hX]
    have BX : Below w.heap.size w X := (al1 hX).1
    have zX : X.heap.size = w.heap.size + 1 := (al1 hX).2
    have P0 := Lib.hid (al1_0 hX).2.1
    have zw : w.heap.size ≤ X.heap.size := by omega
    have n0 : w.heap.size < X.heap.size := by omega
    clear hX
    refine (hfr.out X BX).mono ?_
    rintro e w1 ⟨rfl, hb1⟩
    have b1 := hb1
    have z1 := b1.size
    clear hb1
    go_wp2_with fail
    refine (hwk.out _).mono ?_
    rintro e w99 ⟨rfl, hb99⟩
    go_wp2
    go_ret
    exact ⟨rfl, BX.trans (Below.mono (b1.trans (hb99.mono z1)) zw)⟩

end Go.Proofs.Ythjjakhmbgnnnaa
