/- Errors and Differ of checks (layer 5), where there is a truth; Fewest of checks (layer 5), where a yard agrees with itself. -/
import Derived.Test.YtcinhibmohkeiaaQy26
import Derived.Shelf.Abstract
import Derived.Laws.EntriesVeiled
import Derived.Handy
import Derived.Deep.DrawnRows
import Derived.Deep.DeepCutAuto
import Derived.BigRegionIn
import Derived.Shelf.RegionOpen
namespace Go.Proofs.Ytcinhibmohkeiaa
open Go.RowKit
open Go.Sort (grow)
set_option linter.unusedVariables false
set_option linter.unusedSimpArgs false

set_option maxRecDepth 100000 in
set_option maxHeartbeats 1600000 in
theorem Errors_c (A : Option Addr) (n c : Nat) (B : Option Addr) (m d : Nat) (wr : Int) (ms : List Sp) (cs : List Cm5) (p : Nat) (w : World) (hp : p < n) (HM : SpsAt w A n ms) (HC : CmsAt w B m cs) (hck : ckY n m ms cs wr = true) (hne : (trsY n m ms cs wr).isEmpty = false) :
    Calls Try.prog 13 #[.agg #[.slice A n c, .slice B m d, .int .i64 wr], .int .i64 p] w fun e w' => e = .returned (.tuple #[.agg #[.int .i64 (dfR (trT n ms cs) p n (trsY n m ms cs wr)).lo, .int .i64 (dfR (trT n ms cs) p n (trsY n m ms cs wr)).hi], .int .i64 0]) ∧ Below w.heap.size w w' := by
  obtain ⟨hn5, hm8, -, -⟩ := ckY_n hck
  have HIM : Hid (∀ V, Calls Try.prog 31 #[.agg #[.slice A n c, .slice B m d, .int .i64 wr], .int .i64 p] V fun e w' => e = .returned (.bool true) ∧ Below V.heap.size V w') := Lib.hid (fun V => by
    have := isMachine_c A n c B m d wr p V (by omega)
    rwa [show wn (p : Int) 0 ((n : Int) - 1) = true by simp [wn]; omega] at this)
  have HAS : Hid (∀ V, Below w.heap.size w V → Calls Try.prog 30 #[.agg #[.slice A n c, .slice B m d, .int .i64 wr], .bool true] V fun e w' => e = .returned (.int .i64 0) ∧ Below V.heap.size V w') := Lib.hid (fun V hV => by
    have := ask5_c A n c B m d wr ms cs true V (by omega) (by omega) (HM.later hV) (HC.later hV) hck rfl
    rwa [hne] at this)
  have HDI := Lib.hid (fun V (hV : Below w.heap.size w V) => differ_c A n c B m d wr ms cs p n (by omega) (by omega) V (HM.later hV) (HC.later hV) hck)
  obtain ⟨R, hR⟩ : ∃ R, dfR (trT n ms cs) p n (trsY n m ms cs wr) = R := ⟨_, rfl⟩
  rw [hR] at HDI ⊢
  clear HM HC hck hne hR
  go_enter Try.func13, Try.ntmps13
  go_upto_region 1 with (fail)
  go_name_world X hX
  have BX := (al2 hX).1
  have HY0 : Hid (Blk X w.heap.size 51 #[.slice A n c, .slice B m d, .int .i64 wr]) := by rw [← hX]; exact Lib.hid ((Blk.new w _ _).alloc _)
  have HS0 : Hid (Blk X (w.heap.size + 1) 24 #[.int .i64 0, .int .i64 0]) := by
    rw [← hX]
    exact Lib.hid (Blk.new' (by simp) _ _)
  clear hX
  have q0 := HY0.out.cell
  have l0 := HY0.out.lt
  have zX := BX.size
  have hcq := fun p : Regrown => (bcell (below_regrown X p.d p.os)).1
  refine wp_region_quiet_below (by kernel_rfl) (by kernel_rfl) ?_
  repeat (go_big_quiet_step ((first | (go_at_call 31; exact Calls.regrown_of (HIM.out _)) | (go_at_call 30; exact Calls.regrown_of (HAS.out _ (BX.trans ((below_regrown _ _ _).mono zX)))))))
  refine wpQuiet_nil ?_
  intro w1 hq
  obtain ⟨pq, hq⟩ := hq
  have hb1 : Below X.heap.size X w1 := by rw [hq]; exact below_regrown _ _ _
  clear hq hcq pq
  obtain ⟨hc1, hf1⟩ := bcell hb1
  have z1 := hb1.size
  have BW1 := BX.trans (hb1.mono zX)
  have HY1 := Lib.hid (HY0.out.below hb1 HY0.out.lt)
  have HS1 := Lib.hid (HS0.out.below hb1 HS0.out.lt)
  clear q0 l0 hc1 hf1 hb1 z1
  have q1 := HY1.out.cell
  have l1 := HY1.out.lt
  have zw1 := BW1.size
  go_wp2_with (go_at_call 32; refine (HDI.out _ BW1).mono ?_; rintro e w2 ⟨rfl, hb2⟩; have HS2 := Lib.hid (HS1.out.below hb2 HS1.out.lt); have k2 := HS2.out.cell; have f2 := HS2.out.frozen; have l2 := HS2.out.lt; have B2 := BW1.trans (hb2.mono zw1); clear hb2)
  have BB := Below.setCell (p := ⟨w.heap.size + 1, 1, none⟩) (Below.setCell (p := ⟨w.heap.size + 1, 0, none⟩) B2 (by show _ ≤ w.heap.size + 1; omega) (.int .i64 R.lo)) (by show _ ≤ w.heap.size + 1; omega) (.int .i64 R.hi)
  have kk := (HS2.out.set_ 0 (.int .i64 R.lo)).set_ 1 (.int .i64 R.hi)
  have c3 := kk.cell 0
  have c4 := kk.cell 1
  refine bodyPost_ret (v := .tuple #[.agg #[.int .i64 R.lo, .int .i64 R.hi], .int .i64 0]) ?_ rfl ⟨rfl, BB⟩
  simp [results, Try.results13, go_sem, c3, c4]
set_option maxRecDepth 100000 in
set_option maxHeartbeats 1600000 in
theorem Differ_c (A : Option Addr) (n c : Nat) (B : Option Addr) (m d : Nat) (wr : Int) (ms : List Sp) (cs : List Cm5) (p q : Nat) (w : World) (hp : p < n) (hq : q < n) (HM : SpsAt w A n ms) (HC : CmsAt w B m cs) (hck : ckY n m ms cs wr = true) (hne : (trsY n m ms cs wr).isEmpty = false) :
    Calls Try.prog 14 #[.agg #[.slice A n c, .slice B m d, .int .i64 wr], .int .i64 p, .int .i64 q] w fun e w' => e = .returned (.tuple #[.agg #[.int .i64 (dfR (trT n ms cs) p q (trsY n m ms cs wr)).lo, .int .i64 (dfR (trT n ms cs) p q (trsY n m ms cs wr)).hi], .int .i64 0]) ∧ Below w.heap.size w w' := by
  obtain ⟨hn5, hm8, -, -⟩ := ckY_n hck
  have HIM : Hid (∀ V (x : Nat), x < n → Calls Try.prog 31 #[.agg #[.slice A n c, .slice B m d, .int .i64 wr], .int .i64 x] V fun e w' => e = .returned (.bool true) ∧ Below V.heap.size V w') := Lib.hid (fun V x hx => by
    have := isMachine_c A n c B m d wr x V (by omega)
    rwa [show wn (x : Int) 0 ((n : Int) - 1) = true by simp [wn]; omega] at this)
  have HAS : Hid (∀ V, Below w.heap.size w V → Calls Try.prog 30 #[.agg #[.slice A n c, .slice B m d, .int .i64 wr], .bool true] V fun e w' => e = .returned (.int .i64 0) ∧ Below V.heap.size V w') := Lib.hid (fun V hV => by
    have := ask5_c A n c B m d wr ms cs true V (by omega) (by omega) (HM.later hV) (HC.later hV) hck rfl
    rwa [hne] at this)
  have HDI := Lib.hid (fun V (hV : Below w.heap.size w V) => differ_c A n c B m d wr ms cs p q (by omega) (by omega) V (HM.later hV) (HC.later hV) hck)
  obtain ⟨R, hR⟩ : ∃ R, dfR (trT n ms cs) p q (trsY n m ms cs wr) = R := ⟨_, rfl⟩
  rw [hR] at HDI ⊢
  clear HM HC hck hne hR
  go_enter Try.func14, Try.ntmps14
  go_upto_region 1 with (fail)
  go_name_world X hX
  have BX := (al2 hX).1
  have HY0 : Hid (Blk X w.heap.size 51 #[.slice A n c, .slice B m d, .int .i64 wr]) := by rw [← hX]; exact Lib.hid ((Blk.new w _ _).alloc _)
  have HS0 : Hid (Blk X (w.heap.size + 1) 24 #[.int .i64 0, .int .i64 0]) := by
    rw [← hX]
    exact Lib.hid (Blk.new' (by simp) _ _)
  clear hX
  have q0 := HY0.out.cell
  have l0 := HY0.out.lt
  have zX := BX.size
  have hcq := fun p : Regrown => (bcell (below_regrown X p.d p.os)).1
  refine wp_region_quiet_below (by kernel_rfl) (by kernel_rfl) ?_
  repeat (go_big_quiet_step ((first | (go_at_call 31; exact Calls.regrown_of (HIM.out _ _ (by assumption))) | (go_at_call 30; exact Calls.regrown_of (HAS.out _ (BX.trans ((below_regrown _ _ _).mono zX)))))))
  refine wpQuiet_nil ?_
  intro w1 hq
  obtain ⟨pq, hq⟩ := hq
  have hb1 : Below X.heap.size X w1 := by rw [hq]; exact below_regrown _ _ _
  clear hq hcq pq
  obtain ⟨hc1, hf1⟩ := bcell hb1
  have z1 := hb1.size
  have BW1 := BX.trans (hb1.mono zX)
  have HY1 := Lib.hid (HY0.out.below hb1 HY0.out.lt)
  have HS1 := Lib.hid (HS0.out.below hb1 HS0.out.lt)
  clear q0 l0 hc1 hf1 hb1 z1
  have q1 := HY1.out.cell
  have l1 := HY1.out.lt
  have zw1 := BW1.size
  go_wp2_with (go_at_call 32; refine (HDI.out _ BW1).mono ?_; rintro e w2 ⟨rfl, hb2⟩; have HS2 := Lib.hid (HS1.out.below hb2 HS1.out.lt); have k2 := HS2.out.cell; have f2 := HS2.out.frozen; have l2 := HS2.out.lt; have B2 := BW1.trans (hb2.mono zw1); clear hb2)
  have BB := Below.setCell (p := ⟨w.heap.size + 1, 1, none⟩) (Below.setCell (p := ⟨w.heap.size + 1, 0, none⟩) B2 (by show _ ≤ w.heap.size + 1; omega) (.int .i64 R.lo)) (by show _ ≤ w.heap.size + 1; omega) (.int .i64 R.hi)
  have kk := (HS2.out.set_ 0 (.int .i64 R.lo)).set_ 1 (.int .i64 R.hi)
  have c3 := kk.cell 0
  have c4 := kk.cell 1
  refine bodyPost_ret (v := .tuple #[.agg #[.int .i64 R.lo, .int .i64 R.hi], .int .i64 0]) ?_ rfl ⟨rfl, BB⟩
  simp [results, Try.results14, go_sem, c3, c4]

end Go.Proofs.Ytcinhibmohkeiaa

namespace Go.Proofs.Ytcinhibmohkeiaa
open Go.RowKit
open Go.Sort (grow)
set_option linter.unusedVariables false
set_option linter.unusedSimpArgs false

attribute [local go_sem] Oper.semAt_some
theorem setsL_0 : ∀ m, m < 9 → (setsL m 0)[0]? = some 0 := by decide +kernel
set_option maxRecDepth 100000 in
set_option maxHeartbeats 3200000 in
theorem Fewest5_c (A : Option Addr) (n c : Nat) (B : Option Addr) (m d : Nat) (wr : Int) (ms : List Sp) (cs : List Cm5) (w : World) (hm1 : 0 < m) (HM : SpsAt w A n ms) (HC : CmsAt w B m cs) (hck : ckY n m ms cs wr = true) (hcl : clB n (trT n ms cs 0) = true) :
    Calls Try.prog 12 #[.agg #[.slice A n c, .slice B m d, .int .i64 wr]] w fun e w' => e = .returned (.tuple #[.int .i64 0, .int .i64 0]) ∧ Below w.heap.size w w' := by
  obtain ⟨hn5, hm8, -, -⟩ := ckY_n hck
  have HCK : Hid (∀ V, Below w.heap.size w V → Calls Try.prog 26 #[.agg #[.slice A n c, .slice B m d, .int .i64 wr]] V fun e w' => e = .returned (.int .i64 0) ∧ Below V.heap.size V w') := Lib.hid (fun V hV => by have := check5_c A n c B m d wr ms cs V (by omega) (by omega) (HM.later hV) (HC.later hV); rw [hck] at this; exact this)
  have enH : ∀ args w, (callFunc 29 args).run Try.prog w = .ok (.enter 29 args) w := enters_of Try.func29 (by kernel_rfl) rfl
  have HAG : Hid (∀ V, Below w.heap.size w V → Calls Try.prog 28 #[.agg #[.slice A n c, .slice B m d, .int .i64 wr], .func (.func 29) #[.int .u64 0] #[]] V fun e w' => e = .returned (.bool true) ∧ Below V.heap.size V w') := Lib.hid (fun V hV => by
    have := agrees_c A n c B m d wr ms cs 29 #[.int .u64 (0 : Nat)] #[] (Nat.testBit 0) V (HM.later hV) (HC.later hV) hck enH (fun k hk w' hb => by
      have := (has5_c 0 k w' (by omega) (by omega)).mono (R' := fun e w'' => e = .returned (.bool ((0 : Nat).testBit k)) ∧ Below w'.heap.size w' w'') (fun e w'' ⟨h1, h2⟩ => ⟨h1, h2 ▸ Below.refl _ _⟩)
      simpa using this)
    unfold trT at hcl
    rwa [hcl] at this)
  have hs0 := Lib.hid (setsL_0 m (by omega))
  clear HM HC hck hcl enH
  refine (callsIn_wide (n := 6)).1 (callsIn_of_wp_marks Try.func12 rfl trivial ?_ rfl)
  simp only [Try.ntmps12, List.size_toArray, List.length_cons, List.length_nil, Nat.reduceAdd, Nat.reduceSub, Array.replicate_succ, Array.replicate_zero, List.push_toArray, List.append_toArray, List.nil_append, List.cons_append]
  have hb0 : Below w.heap.size w (((w.alloc (.cells #[.slice A n c, .slice B m d, .int .i64 wr] 51)).alloc (.cells #[.int .i64 0] 3)).alloc (.cells #[.int .i64 0] 36)) := by (repeat first | with_reducible assumption | with_reducible exact Below.refl _ _ | (with_reducible refine Below.alloc ?_ ?side _; case side => (first | omega | (with_reducible exact Below.size (by assumption)) | (simp; done) | (simp; omega))) | (with_reducible refine Below.setCell ?_ ?side _; case side => (first | omega | (with_reducible exact Below.size (by assumption)) | (simp; done) | (simp; omega))) | with_reducible refine Below.drew ?_ | with_reducible refine below_drewN ?_ _ | (with_reducible refine below_step (by assumption) ?side ?_; case side => (first | omega | (with_reducible exact Below.size (by assumption)) | (simp; done) | (simp; omega))))
  have H0 : Hid (Blk (((w.alloc (.cells #[.slice A n c, .slice B m d, .int .i64 wr] 51)).alloc (.cells #[.int .i64 0] 3)).alloc (.cells #[.int .i64 0] 36)) w.heap.size 51 #[.slice A n c, .slice B m d, .int .i64 wr] ∧ Blk (((w.alloc (.cells #[.slice A n c, .slice B m d, .int .i64 wr] 51)).alloc (.cells #[.int .i64 0] 3)).alloc (.cells #[.int .i64 0] 36)) (w.heap.size + 1) 3 #[.int .i64 0] ∧ Blk (((w.alloc (.cells #[.slice A n c, .slice B m d, .int .i64 wr] 51)).alloc (.cells #[.int .i64 0] 3)).alloc (.cells #[.int .i64 0] 36)) (w.heap.size + 1 + 1) 36 #[.int .i64 0]) := Lib.hid ⟨((Blk.new w _ _).alloc _).alloc _, (Blk.new' (by simp) _ _).alloc _, Blk.new' (by simp) _ _⟩
  gi_wp2_with (refine ⟨trivial, ?_⟩; gi_at_call 26; refine callsIn_wide.2 ((HCK.out _ hb0).mono ?_); rintro e w1 ⟨rfl, hb1⟩; have HY1 := Lib.hid (H0.out.1.below hb1 H0.out.1.lt); have HI1 := Lib.hid (H0.out.2.1.below hb1 H0.out.2.1.lt); have HE1 := Lib.hid (H0.out.2.2.below hb1 H0.out.2.2.lt); have q0 := HY1.out.cell; have n0 := HY1.out.lt; have hbw1 : Below w.heap.size w w1 := hb0.trans (hb1.mono (by simp only [World.size_alloc]; omega)); clear hb1)
  refine wpIn_loop (fun a' wr => a' = _ ∧ wr = _) (fun _ _ => 1) ⟨rfl, rfl⟩ ?round
  rintro a' w9 ⟨rfl, e9⟩
  have e9' := e9.symm
  subst e9'
  clear e9
  have hqB : decide ((0 : Int) < m) = true := by simp; omega
  have hb2 : Below w.heap.size w (w1.alloc (.cells #[.int .i64 0] 3)) := hbw1.alloc hbw1.size _
  have HY2 := Lib.hid (HY1.out.alloc (.cells #[.int .i64 0] 3))
  have HI2 := Lib.hid (HI1.out.alloc (.cells #[.int .i64 0] 3))
  have HE2 := Lib.hid (HE1.out.alloc (.cells #[.int .i64 0] 3))
  have HN2 := Lib.hid (Blk.new w1 3 #[.int .i64 0])
  gi_wp2_with (refine ⟨trivial, ?_⟩; gi_at_call 27; refine callsIn_wide.2 ((sets_c m 0 _).mono ?_); rintro e w2 ⟨b1, b2, rfl, -, hsm, hb3⟩; have HSM := Lib.hid hsm; have B3 := hb2.trans (hb3.mono hb2.size); have HY3 := Lib.hid (HY2.out.below hb3 HY2.out.lt); have HI3 := Lib.hid (HI2.out.below hb3 HI2.out.lt); have HE3 := Lib.hid (HE2.out.below hb3 HE2.out.lt); have HN3 := Lib.hid (HN2.out.below hb3 HN2.out.lt); have z3 := hb3.size; clear hsm hb3 hb2)
  have en := enters_of Try.func49 (by kernel_rfl) rfl
  rw [World.size_alloc] at z3
  have zw1 := hbw1.size
  have zE := HE1.out.lt
  clear q0 n0
  refine wpIn_rangeT (gf := 49) (fst := #[]) (lb := #[.pointer (some ⟨b1, 0, none⟩), .pointer (some ⟨b2, 0, none⟩)]) rfl en (sets1_c b1 b2 m 0 hm8) (fun s args h => by rw [show args = _ from h]; rfl)
    (fun k W => k = 0 ∧ Below w.heap.size w W ∧ Blk W w.heap.size 51 #[.slice A n c, .slice B m d, .int .i64 wr] ∧ Blk W (w.heap.size + 1) 3 #[.int .i64 0] ∧ Blk W (w.heap.size + 1 + 1) 36 #[.int .i64 0] ∧ Blk W w1.heap.size 3 #[.int .i64 0] ∧ SetMem b1 b2 m 0 W)
    (fun c W => c = .ret ∧ Below w.heap.size w W ∧ Blk W (w.heap.size + 1) 3 #[.int .i64 0] ∧ Blk W (w.heap.size + 1 + 1) 36 #[.int .i64 0]) ?hI ?hIx ?hmem ?h0 ?hround ?hdone ?hstop
  case hI => exact fun k W1 W2 ⟨h1, h2, h3, h4, h5, h6, h7⟩ ht => ⟨h1, ht.below (by omega) h2.size h2, ht.blk h3, ht.blk h4, ht.blk h5, ht.blk h6, h7.tame ht⟩
  case hIx => exact fun c W1 W2 ⟨h1, h2, h4, h5⟩ ht => ⟨h1, ht.below (by omega) h2.size h2, ht.blk h4, ht.blk h5⟩
  case hmem => exact fun k W1 h => h.2.2.2.2.2.2
  case h0 => exact ⟨rfl, B3, HY3.out, HI3.out, HE3.out, HN3.out, HSM.out⟩
  case hround =>
    rintro l k s args W1 hl hz1 hx ⟨rfl, h2, h3, h4, h5, h6, -⟩ rfl
    rw [hs0.out] at hx
    cases hx
    have HH := Lib.hid (And.intro h2 (And.intro h3 (And.intro h4 (And.intro h5 h6))))
    clear h2 h3 h4 h5 h6
    gi_wp2
    refine ⟨KeepC.refl _ _, fun W2 ht => ?_⟩
    have hB2 := ht.below (by omega) HH.out.1.size HH.out.1
    have HY4 := Lib.hid (ht.blk HH.out.2.1)
    have HI4 := Lib.hid (ht.blk HH.out.2.2.1)
    have HE4 := Lib.hid (ht.blk HH.out.2.2.2.1)
    have HN4 := Lib.hid (ht.blk HH.out.2.2.2.2)
    have qy := HY4.out.cell
    have ly := HY4.out.lt
    clear ht
    gi_wp2_with (refine ⟨trivial, ?_⟩; gi_at_call 28; refine CallsIn.inRound _ (callsIn_wide.2 ((HAG.out _ hB2).mono ?_)); rintro e w5 ⟨rfl, hb5⟩; have HB5 := Lib.hid (hB2.trans (hb5.mono hB2.size)); have HI5 := Lib.hid (HI4.out.below hb5 HI4.out.lt); have HE5 := Lib.hid (HE4.out.below hb5 HE4.out.lt); have HN5 := Lib.hid (HN4.out.below hb5 HN4.out.lt); have HK5 := Lib.hid (KeepC.of_below (B := w2.heap.size) hb5); have ci := HI5.out.cell 0; have fi := HI5.out.frozen 0; have li := HI5.out.lt; have ce := HE5.out.cell 0; have fe := HE5.out.frozen 0; have le := HE5.out.lt; have cn := HN5.out.cell 0; have ln := HN5.out.lt; clear hb5)
    refine ⟨(HK5.out.set' (by show w.heap.size + 1 < _; omega) _).set' (by show w.heap.size + 1 + 1 < _; omega) _, rfl, Below.setCell (p := ⟨w.heap.size + 1 + 1, 0, none⟩) (Below.setCell (p := ⟨w.heap.size + 1, 0, none⟩) HB5.out (by show _ ≤ w.heap.size + 1; omega) _) (by show _ ≤ w.heap.size + 1 + 1; omega) _, ?_, ?_⟩
    · exact (HI5.out.set_ 0 (.int .i64 0)).far (by show _ ≠ w.heap.size + 1 + 1; omega) _
    · exact (HE5.out.far (by show _ ≠ w.heap.size + 1; omega) _).set_ 0 (.int .i64 0)
  case hdone =>
    rintro D W hD ⟨h, -⟩ hK
    have := hs0.out
    rw [List.eq_nil_of_length_eq_zero h] at this
    simp at this
  case hstop =>
    rintro D c W hD ⟨rfl, h2, h4, h5⟩ hK
    have c4 := h4.cell 0
    have c5 := h5.cell 0
    have H4 := Lib.hid h4
    have H5 := Lib.hid h5
    clear h4 h5 c4 c5
    gi_wp2
    refine leave_mark (v := .tuple #[.int .i64 0, .int .i64 0]) hK (fun W' ht => ?_) (fun W' ht => ⟨rfl, ht.below (by omega) h2.size h2⟩)
    have d4 := (ht.blk H4.out).cell 0
    have d5 := (ht.blk H5.out).cell 0
    simp [results, Try.results12, go_sem, d4, d5]

end Go.Proofs.Ytcinhibmohkeiaa
