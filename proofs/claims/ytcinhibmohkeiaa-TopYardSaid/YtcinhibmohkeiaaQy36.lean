/- LoadOf, IsRight, Wrongs and IsTruth of the specification (layer 3), walked. -/
import Derived.Test.YtcinhibmohkeiaaQy34
import Derived.Test.YtcinhibmohkeiaaQy35
import Derived.Shelf.Abstract
import Derived.Laws.EntriesVeiled
import Derived.Handy
import Derived.Deep.DrawnRows
import Derived.Deep.DeepCutAuto
namespace Go.Proofs.Ytcinhibmohkeiaa
open Go.RowKit
open Go.Sort (grow)
set_option linter.unusedVariables false
set_option linter.unusedSimpArgs false

theorem run_max23 {P : Program} {w : World} (ts : Array TypeId) (t : TypeId) (x y : Int) : (Builtin.max_ ts t #[.int .i64 x, .int .i64 y]).run P w = .ok (.int .i64 (max x y)) w := by
  simp [Builtin.max_, Builtin.max2]
  omega
attribute [local go_sem high] run_max23
theorem pl3_max {wa lk wt mi : Int} : pl3 wa lk wt mi = wt + max 0 (wa - mi * lk) := by unfold pl3; split <;> omega
section
variable (Al : Option Addr) (nl cl : Nat) (wa l0 l1 : Int) (Ab : Option Addr) (nb cb : Nat) (wrg : Int) (lv : List Lv) (bl : List Bal) (SA : Option Addr) (sc : Nat) (us : List Int) (lk : Int)
/-- what the arms are: those of the machine, those of the setting -/
def ArmsOk (nl : Nat) (lv : List Lv) (us : List Int) : Prop := ∀ k, k < nl → ((1 ≤ (lvAt lv k).lg ∧ (lvAt lv k).lg ≤ 1000) ∧ 1 ≤ (lvAt lv k).lo ∧ (lvAt lv k).hi ≤ 1000) ∧ (lvAt lv k).lo ≤ iAt us k ∧ iAt us k ≤ (lvAt lv k).hi
theorem pow3_bd {n k : Nat} (hn : n ≤ 3) (hk : k ≤ n) : (1000 : Int) ^ k ≤ 1000000000 := by
  match k, (show k ≤ 3 by omega) with
  | 0, _ => decide
  | 1, _ => decide
  | 2, _ => decide
  | 3, _ => decide
set_option maxRecDepth 100000 in
set_option maxHeartbeats 3200000 in
theorem LoadOf3_c (wt mi : Int) (w : World) (hn3 : nl ≤ 3) (hll : lv.length = nl) (har : ArmsOk nl lv us) (hwa : 0 ≤ wa ∧ wa ≤ 9999) (hlk : 0 ≤ lk ∧ lk ≤ 20) (hwt : 0 ≤ wt ∧ wt ≤ 9999) (hmi : 0 ≤ mi ∧ mi ≤ 99) (HL : LvsAt w Al nl lv) (HS : IntsAt w SA nl us) :
    Calls Try.prog 10 #[.agg #[.slice Al nl cl, .int .i64 wa, .int .i64 l0, .int .i64 l1, .slice Ab nb cb, .int .i64 wrg], .agg #[.slice SA nl sc, .int .i64 lk], .int .i64 wt, .int .i64 mi] w fun e w' => e = .returned (.tuple #[.int .i64 (pl3 wa lk wt mi * abK lv nl), .int .i64 (prS3 us 0 nl)]) ∧ Below w.heap.size w w' := by
  have hp := pl3_bd hwa hlk hwt hmi
  have hm := @pl3_max wa lk wt mi
  have HAB := Lib.hid (abK_bd (lv := lv) (by omega) (fun k hk => (har k (by omega)).1.1))
  have HPB := Lib.hid (prS3_bd (lv := lv) (us := us) (n := nl) (fun k hk => ⟨⟨(har k hk).1.2.1, (har k hk).1.2.2⟩, (har k hk).2⟩))
  have HAS := Lib.hid (fun k (hk : k < nl) => abK_succ (lv := lv) (k := k) (by omega))
  have HPS := Lib.hid (fun k => prS3_end us k 0)
  have HPW := Lib.hid (fun k (hk : k ≤ nl) => pow3_bd hn3 hk)
  have HAR := Lib.hid har
  have HLI := Lib.hid HL
  have HSI := Lib.hid HS
  have HLL := Lib.hid hll
  have v0 : IntKind.i64.wrap (mi * lk) = mi * lk := IntWalk.i64_in _ (by omega)
  have v1 : IntKind.i64.wrap (wa - mi * lk) = wa - mi * lk := IntWalk.i64_in _ (by omega)
  obtain ⟨P, hP⟩ : ∃ x, pl3 wa lk wt mi = x := ⟨_, rfl⟩
  rw [hP] at hp hm ⊢
  have v2 : IntKind.i64.wrap (wt + max 0 (wa - mi * lk)) = P := by rw [hm]; exact IntWalk.i64_in _ (by omega)
  have h0 : abK lv 0 = 1 := rfl
  have h1 : prS3 us 0 0 = 1 := rfl
  obtain ⟨A, hA⟩ : ∃ f, abK lv = f := ⟨_, rfl⟩
  obtain ⟨S, hS⟩ : ∃ f, prS3 us 0 = f := ⟨_, rfl⟩
  rw [hA] at HAB HAS h0 ⊢
  rw [hS] at HPB HPS h1 ⊢
  have H0 := Lib.hid (And.intro h0 h1)
  clear HL HS har hll hP hm hA hS h0 h1
  go_enter Try.func10, Try.ntmps10
  go_upto_region 2 with (fail)
  go_name_world X hX
  have BX : Below w.heap.size w X := (al2 hX).1
  have HPX : Hid (Blk X w.heap.size 27 #[Value.slice Al nl cl, .int .i64 wa, .int .i64 l0, .int .i64 l1, .slice Ab nb cb, .int .i64 wrg]) := by rw [← hX]; exact Lib.hid ((Blk.new w _ _).alloc _)
  have HQX : Hid (Blk X (w.heap.size + 1) 30 #[.slice SA nl sc, .int .i64 lk]) := by
    rw [← hX]
    have := Blk.new (w.alloc (.cells #[Value.slice Al nl cl, .int .i64 wa, .int .i64 l0, .int .i64 l1, .slice Ab nb cb, .int .i64 wrg] 27)) 30 #[.slice SA nl sc, .int .i64 lk]
    rw [World.size_alloc] at this
    exact Lib.hid this
  clear hX
  go_wp2_with fail
  go_loopw [8, 9, 10] (fun a b i (wr : World) => ∃ k : Nat, k ≤ nl ∧ i = .int .i64 k ∧ a = .int .i64 (P * A k) ∧ b = .int .i64 (S k) ∧ Below X.heap.size X wr) (fun _ _ i _ => nl - (intOf i).toNat)
  case atStart => exact ⟨0, by omega, by simp, by rw [H0.out.1, Int.mul_one], by rw [H0.out.2], Below.refl _ _⟩
  case round =>
    obtain ⟨k, hk, rfl, rfl, rfl, hb⟩ := hrel
    have zb := hb.size
    have HPR := Lib.hid (HPX.out.below hb HPX.out.lt)
    have HQR := Lib.hid (HQX.out.below hb HQX.out.lt)
    have cP := HPR.out.cell
    have lP := HPR.out.lt
    have cQ := HQR.out.cell
    have lQ := HQR.out.lt
    have hbw := Lib.hid (BX.trans (hb.mono BX.size))
    by_cases hlt : k < nl
    · have hqB : decide ((k : Int) < nl) = true := decide_eq_true (by omega)
      have vk : IntKind.i64.wrap ((k : Int) + 1) = (k : Int) + 1 := IntWalk.i64_in _ (by omega)
      obtain ⟨b, off, eA, hbl, x0, x1, x2⟩ := (HLI.out.later hbw.out).get hlt
      cases eA
      obtain ⟨sb, so, eS, hsb, y0⟩ := (HSI.out.later hbw.out).get hlt
      cases eS
      obtain ⟨⟨g1, g2⟩, -⟩ := (HAR.out k hlt).1
      have a0 := HAB.out (k + 1) (by have := HLL.out; omega)
      have s0 := HPB.out (k + 1) (by omega)
      have p0 := HPW.out (k + 1) (by omega)
      have as0 := HAS.out k hlt
      have ps0 := HPS.out k
      rw [Nat.zero_add] at ps0
      obtain ⟨g, hg⟩ : ∃ x, (lvAt lv k).lg = x := ⟨_, rfl⟩
      obtain ⟨u, hu⟩ : ∃ x, iAt us k = x := ⟨_, rfl⟩
      rw [hg] at x0 as0
      rw [hu] at y0 ps0
      rw [as0] at a0
      rw [ps0] at s0
      have m1 : 0 ≤ P * (A k * g) := Int.mul_nonneg hp.2.1 (by omega)
      have m2 : P * (A k * g) ≤ 19998 * 1000000000 := Int.mul_le_mul hp.2.2 (by omega) (by omega) (by omega)
      have w1 : IntKind.i64.wrap (P * A k * g) = P * A (k + 1) := by rw [as0, Int.mul_assoc]; exact IntWalk.i64_in _ (by omega)
      have w2 : IntKind.i64.wrap (S k * u) = S (k + 1) := by rw [ps0]; exact IntWalk.i64_in _ (by omega)
      clear a0 s0 p0 as0 ps0 hg hu m1 m2 g1 g2
      go_wp2_with fail
      go_roundw
      case rel => exact ⟨k + 1, by omega, by go_num, rfl, rfl, hb⟩
      case measure => simp [intOf]; omega
    · obtain rfl : nl = k := by omega
      have hqB : decide (((nl : Nat) : Int) < nl) = false := decide_eq_false (by omega)
      go_wp2_with fail
      exact bodyPost_ret (v := .tuple #[.int .i64 (P * A nl), .int .i64 (S nl)]) (by simp [results, Try.results10, go_sem]) rfl ⟨rfl, hbw.out⟩
/-- what the machine and the setting are -/
structure TrOk (nl nb : Nat) (wa l0 l1 wrg : Int) (lv : List Lv) (bl : List Bal) (us : List Int) (lk : Int) : Prop where
  ok : OkM nl nb wa l0 l1 wrg (abK lv nl) lv bl
  lg : ∀ k, k < lv.length → 1 ≤ (lvAt lv k).lg ∧ (lvAt lv k).lg ≤ 1000
  lk : 0 ≤ lk ∧ lk ≤ 20
  ar : ∀ k, k < nl → (lvAt lv k).lo ≤ iAt us k ∧ iAt us k ≤ (lvAt lv k).hi
  ln : us.length = nl
theorem TrOk.arms {nl nb : Nat} {wa l0 l1 wrg : Int} {lv : List Lv} {bl : List Bal} {us : List Int} {lk : Int} (h : TrOk nl nb wa l0 l1 wrg lv bl us lk) : ArmsOk nl lv us := fun k hk =>
  ⟨⟨h.lg k (by have := h.ok.ll; omega), (h.ok.lv k hk).1, (h.ok.lv k hk).2.2⟩, h.ar k hk⟩
set_option maxRecDepth 100000 in
set_option maxHeartbeats 3200000 in
theorem IsRight3_c (k : Nat) (w : World) (hk : k < nb) (ht : TrOk nl nb wa l0 l1 wrg lv bl us lk) (HL : LvsAt w Al nl lv) (HS : IntsAt w SA nl us) :
    Calls Try.prog 35 #[.agg #[.slice Al nl cl, .int .i64 wa, .int .i64 l0, .int .i64 l1, .slice Ab nb cb, .int .i64 wrg], .agg #[.slice SA nl sc, .int .i64 lk], .agg #[.int .i64 (baAt bl k).wt, .int .i64 (baAt bl k).mi, .int .i64 (baAt bl k).ld, .int .i64 (baAt bl k).of]] w
      fun e w' => e = .returned (.bool (rt3 wa (abK lv nl) (tS3 us lk) (baAt bl k))) ∧ Below w.heap.size w w' := by
  have hb := ht.ok.ba k hk
  have HLO := Lib.hid (fun V (hV : Below w.heap.size w V) => LoadOf3_c Al nl cl wa l0 l1 Ab nb cb wrg lv SA sc us lk (baAt bl k).wt (baAt bl k).mi V ht.ok.nl3 ht.ok.ll ht.arms ht.ok.wa ht.lk hb.1 hb.2.1 (HL.later hV) (HS.later hV))
  have hp := pl3_bd ht.ok.wa ht.lk hb.1 hb.2.1
  have hab := ht.ok.ab
  have hs := prS3_bd (lv := lv) (us := us) (n := nl) (fun k hk => ⟨⟨(ht.arms k hk).1.2.1, (ht.arms k hk).1.2.2⟩, (ht.arms k hk).2⟩) nl (Nat.le_refl _)
  have hpw := pow3_bd ht.ok.nl3 (Nat.le_refl nl)
  have hR : rt3 wa (abK lv nl) (tS3 us lk) (baAt bl k) = decide (max (pl3 wa lk (baAt bl k).wt (baAt bl k).mi * abK lv nl - (baAt bl k).ld * prS3 us 0 nl) (-(pl3 wa lk (baAt bl k).wt (baAt bl k).mi * abK lv nl - (baAt bl k).ld * prS3 us 0 nl)) ≤ (baAt bl k).of * prS3 us 0 nl) := by
    unfold rt3 df3 ab3 tS3
    simp only
    rw [ht.ln, decide_eq_decide]
    split <;> omega
  rw [hR]
  obtain ⟨x, hx⟩ : ∃ x, baAt bl k = x := ⟨_, rfl⟩
  rw [hx] at HLO hb hp ⊢
  obtain ⟨wt, mi, ld, of⟩ := x
  simp only at HLO hb hp ⊢
  obtain ⟨P, hP⟩ : ∃ x, pl3 wa lk wt mi = x := ⟨_, rfl⟩
  rw [hP] at HLO hp ⊢
  obtain ⟨A, hA⟩ : ∃ f, abK lv nl = f := ⟨_, rfl⟩
  obtain ⟨S, hS⟩ : ∃ f, prS3 us 0 nl = f := ⟨_, rfl⟩
  rw [hA] at HLO hab ⊢
  rw [hS] at HLO hs ⊢
  have m1 : 0 ≤ P * A := Int.mul_nonneg hp.2.1 (by omega)
  have m2 : P * A ≤ 19998 * 1000000000 := Int.mul_le_mul hp.2.2 (by omega) (by omega) (by omega)
  have m3 : 0 ≤ ld * S := Int.mul_nonneg (by omega) (by omega)
  have m4 : ld * S ≤ 999999999 * 1000000000 := Int.mul_le_mul (by omega) (by omega) (by omega) (by omega)
  have m5 : 0 ≤ of * S := Int.mul_nonneg (by omega) (by omega)
  have m6 : of * S ≤ 999999999 * 1000000000 := Int.mul_le_mul (by omega) (by omega) (by omega) (by omega)
  obtain ⟨N, hN⟩ : ∃ x, P * A = x := ⟨_, rfl⟩
  obtain ⟨D, hD⟩ : ∃ x, ld * S = x := ⟨_, rfl⟩
  obtain ⟨O, hO⟩ : ∃ x, of * S = x := ⟨_, rfl⟩
  rw [hN] at HLO m1 m2 ⊢
  rw [hD] at m3 m4 ⊢
  rw [hO] at m5 m6 ⊢
  have v1 : IntKind.i64.wrap (ld * S) = D := by rw [hD]; exact IntWalk.i64_in _ (by omega)
  have v2 : IntKind.i64.wrap (N - D) = N - D := IntWalk.i64_in _ (by omega)
  have v3 : IntKind.i64.wrap (-(N - D)) = -(N - D) := IntWalk.i64_in _ (by omega)
  have v4 : IntKind.i64.wrap (of * S) = O := by rw [hO]; exact IntWalk.i64_in _ (by omega)
  obtain ⟨R, hRR⟩ : ∃ R, decide (max (N - D) (-(N - D)) ≤ O) = R := ⟨_, rfl⟩
  rw [hRR]
  clear HL HS ht hb hp hab hs hpw hR hx hP hA hS m1 m2 m3 m4 m5 m6 hN hD hO
  go_enter Try.func35, Try.ntmps35
  go_upto_region 1 with (fail)
  go_name_world X hX
  have BX : Below w.heap.size w X := by rw [← hX]; (repeat first | with_reducible assumption | with_reducible exact Below.refl _ _ | (with_reducible refine Below.alloc ?_ ?side _; case side => (first | omega | (with_reducible exact Below.size (by assumption)) | (simp; done) | (simp; omega))) | (with_reducible refine Below.setCell ?_ ?side _; case side => (first | omega | (with_reducible exact Below.size (by assumption)) | (simp; done) | (simp; omega))) | with_reducible refine Below.drew ?_ | with_reducible refine below_drewN ?_ _ | (with_reducible refine below_step (by assumption) ?side ?_; case side => (first | omega | (with_reducible exact Below.size (by assumption)) | (simp; done) | (simp; omega))))
  have q0 := (al3_0 hX).2.1
  have l0' := (al3_0 hX).1
  have q1 := (al3_1 hX).2.1
  have l1' := (al3_1 hX).1
  have q2 := (al3_2 hX).2.1
  have l2' := (al3_2 hX).1
  clear hX
  go_wp2_with (go_at_call 10; refine (HLO.out X BX).mono ?_; (rintro e w1 ⟨rfl, hb1⟩); (have B1 := BX.trans (hb1.mono BX.size)); (have p2 := fun j => (hb1.cell (p := ⟨w.heap.size + 1 + 1, j, none⟩) l2').trans (q2 j)); (have n2 := Nat.lt_of_lt_of_le l2' hb1.size); clear hb1 q0 q1 q2 l0' l1' l2')
  go_ret
  exact ⟨rfl, B1⟩
set_option maxRecDepth 100000 in
set_option maxHeartbeats 3200000 in
theorem Wrongs3_c (w : World) (ht : TrOk nl nb wa l0 l1 wrg lv bl us lk) (HL : LvsAt w Al nl lv) (HB : BasAt w Ab nb bl) (HS : IntsAt w SA nl us) :
    Calls Try.prog 18 #[.agg #[.slice Al nl cl, .int .i64 wa, .int .i64 l0, .int .i64 l1, .slice Ab nb cb, .int .i64 wrg], .agg #[.slice SA nl sc, .int .i64 lk]] w
      fun e w' => e = .returned (.int .i64 (wr3 wa (abK lv nl) bl (tS3 us lk) nb : Nat)) ∧ Below w.heap.size w w' := by
  have HRT := Lib.hid (fun k (hk : k < nb) V (hV : Below w.heap.size w V) => IsRight3_c Al nl cl wa l0 l1 Ab nb cb wrg lv bl SA sc us lk k V hk ht (HL.later hV) (HS.later hV))
  have HBI := Lib.hid HB
  have hnb := ht.ok.nb6
  have HSU := Lib.hid (fun k => wr3_succ (wa := wa) (ab := abK lv nl) (bl := bl) (s := tS3 us lk) (k := k))
  have HLE := Lib.hid (fun k => wr3_le (wa := wa) (ab := abK lv nl) (bl := bl) (s := tS3 us lk) (k := k))
  have h0 : wr3 wa (abK lv nl) bl (tS3 us lk) 0 = 0 := rfl
  obtain ⟨f, hf⟩ : ∃ f, rt3 wa (abK lv nl) (tS3 us lk) = f := ⟨_, rfl⟩
  rw [hf] at HRT HSU
  obtain ⟨g, hg⟩ : ∃ f, wr3 wa (abK lv nl) bl (tS3 us lk) = f := ⟨_, rfl⟩
  rw [hg] at HSU HLE h0 ⊢
  have H0 := Lib.hid h0
  clear HL HB HS ht hf hg h0
  go_enter Try.func18, Try.ntmps18
  go_upto_region 1 with (fail)
  go_name_world W hW
  obtain ⟨hB, hz⟩ := al2 hW
  obtain ⟨l_0, q_0, f_0⟩ := al2_0 hW
  obtain ⟨l_1, q_1, f_1⟩ := al2_1 hW
  have HZ := Lib.hid hz
  have zs := hB.size
  clear hW hz
  go_wp2_with fail
  go_loopw [5, 6] (fun v i (wr : World) => ∃ k : Nat, k ≤ nb ∧ v = .int .i64 (g k : Nat) ∧ i = .int .i64 k ∧ Below W.heap.size W wr) (fun _ i _ => nb - (intOf i).toNat)
  case atStart => exact ⟨0, by omega, by rw [H0.out]; rfl, by simp, Below.refl _ _⟩
  case round =>
    obtain ⟨k, hk, rfl, rfl, hb⟩ := hrel
    have zb := hb.size
    have cx := fun i => (hb.cell (p := ⟨w.heap.size, i, none⟩) l_0).trans (q_0 i)
    have cy := fun i => (hb.cell (p := ⟨w.heap.size + 1, i, none⟩) l_1).trans (q_1 i)
    have lr0 : w.heap.size < wr.heap.size := by omega
    have lr1 : w.heap.size + 1 < wr.heap.size := by omega
    have hbw := hB.trans (hb.mono zs)
    have hc8 := HLE.out k
    by_cases hlt : k < nb
    · have hqB : decide ((k : Int) < nb) = true := decide_eq_true (by omega)
      have vk : IntKind.i64.wrap ((k : Int) + 1) = (k : Int) + 1 := IntWalk.i64_in _ (by omega)
      obtain ⟨bd, od, hA, hbd, y0, y1, y2, y3⟩ := (HBI.out.later hbw).get hlt
      subst hA
      have HC := HRT.out k hlt
      have HS := HSU.out k
      obtain ⟨x, hx⟩ : ∃ x, baAt bl k = x := ⟨_, rfl⟩
      rw [hx] at y0 y1 y2 y3 HC HS
      obtain ⟨c, hc⟩ : ∃ c, g k = c := ⟨_, rfl⟩
      rw [hc] at hc8 HS ⊢
      have vc : IntKind.i64.wrap ((c : Int) + 1) = (c : Int) + 1 := IntWalk.i64_in _ (by omega)
      cases e1 : f x
      · rw [e1] at HC HS
        obtain ⟨wt, mi, ld, of⟩ := x
        simp only at HC
        replace HC := Lib.hid HC
        replace HS := Lib.hid (show g (k + 1) = c + 1 by simpa using HS)
        clear e1 hx hc
        go_upto_region 5 with (fail)
        have hcq := fun p : Regrown => (bcell (below_regrown wr p.d p.os)).1
        refine wp_region_quiet_below (by kernel_rfl) (by kernel_rfl) ?_
        repeat (go_big_quiet_step ((go_at_call 35; exact Calls.regrown_of (HC.out _ (hbw.trans ((below_regrown _ _ _).mono hbw.size))))))
        refine wpQuiet_nil ?_
        intro wq hq
        obtain ⟨pq, hq⟩ := hq
        have hbq : Below wr.heap.size wr wq := by rw [hq]; exact below_regrown _ _ _
        clear hq hcq pq
        obtain ⟨hcq, hfq⟩ := bcell hbq
        have zq := hbq.size
        have BQ := Lib.hid (hb.trans (hbq.mono zb))
        clear hcq hfq hbq cx cy
        go_wp2_with fail
        go_roundw
        case rel => exact ⟨k + 1, by omega, by rw [HS.out]; go_num, by go_num, BQ.out⟩
        case measure => simp [intOf]; omega
      · rw [e1] at HC HS
        obtain ⟨wt, mi, ld, of⟩ := x
        simp only at HC
        replace HC := Lib.hid HC
        replace HS := Lib.hid (show g (k + 1) = c by simpa using HS)
        clear e1 hx hc
        go_upto_region 5 with (fail)
        have hcq := fun p : Regrown => (bcell (below_regrown wr p.d p.os)).1
        refine wp_region_quiet_below (by kernel_rfl) (by kernel_rfl) ?_
        repeat (go_big_quiet_step ((go_at_call 35; exact Calls.regrown_of (HC.out _ (hbw.trans ((below_regrown _ _ _).mono hbw.size))))))
        refine wpQuiet_nil ?_
        intro wq hq
        obtain ⟨pq, hq⟩ := hq
        have hbq : Below wr.heap.size wr wq := by rw [hq]; exact below_regrown _ _ _
        clear hq hcq pq
        obtain ⟨hcq, hfq⟩ := bcell hbq
        have zq := hbq.size
        have BQ := Lib.hid (hb.trans (hbq.mono zb))
        clear hcq hfq hbq cx cy
        go_wp2_with fail
        go_roundw
        case rel => exact ⟨k + 1, by omega, by rw [HS.out], by go_num, BQ.out⟩
        case measure => simp [intOf]; omega
    · obtain rfl : nb = k := by omega
      have hqB : decide (((nb : Nat) : Int) < nb) = false := decide_eq_false (by omega)
      go_wp2_with fail
      go_ret
      exact ⟨rfl, hbw⟩
set_option maxRecDepth 100000 in
set_option maxHeartbeats 3200000 in
theorem IsTruth3_c (ns : Nat) (w : World) (hns : ns ≤ 40) (ok : OkM nl nb wa l0 l1 wrg (abK lv nl) lv bl) (hlg : ∀ k, k < lv.length → 1 ≤ (lvAt lv k).lg ∧ (lvAt lv k).lg ≤ 1000) (HL : LvsAt w Al nl lv) (HB : BasAt w Ab nb bl) (HS : IntsAt w SA ns us) :
    Calls Try.prog 6 #[.agg #[.slice Al nl cl, .int .i64 wa, .int .i64 l0, .int .i64 l1, .slice Ab nb cb, .int .i64 wrg], .agg #[.slice SA ns sc, .int .i64 lk]] w
      fun e w' => e = .returned (.bool (isT3 nl nb wa l0 l1 wrg (abK lv nl) lv bl us lk)) ∧ Below w.heap.size w w' := by
  have hlen : us.length = ns := HS.1
  unfold isT3
  rw [hlen]
  have c1 := fun V => refWithin3_c lk l0 l1 V
  by_cases hn : ns = nl
  case neg =>
    have hB : (ns == nl) = false := by simpa using hn
    have hB2 : ((ns : Int) != (nl : Int)) = true := by simpa using (fun h : (ns : Int) = nl => hn (by omega))
    rw [hB, Bool.false_and]
    clear ok hlg HL HB HS hlen hn hB c1
    go_enter Try.func6, Try.ntmps6
    go_wp2_with fail
    go_ret
    exact ⟨rfl, by (repeat first | with_reducible assumption | with_reducible exact Below.refl _ _ | (with_reducible refine Below.alloc ?_ ?side _; case side => (first | omega | (with_reducible exact Below.size (by assumption)) | (simp; done) | (simp; omega))) | (with_reducible refine Below.setCell ?_ ?side _; case side => (first | omega | (with_reducible exact Below.size (by assumption)) | (simp; done) | (simp; omega))) | with_reducible refine Below.drew ?_ | with_reducible refine below_drewN ?_ _ | (with_reducible refine below_step (by assumption) ?side ?_; case side => (first | omega | (with_reducible exact Below.size (by assumption)) | (simp; done) | (simp; omega))))⟩
  subst hn
  have hB2 : ((ns : Int) != (ns : Int)) = false := by simp
  rw [show (ns == ns) = true by simp, Bool.true_and]
  cases e1 : wn lk l0 l1
  · rw [e1] at c1
    replace c1 := Lib.hid c1
    rw [Bool.false_and]
    clear ok hlg HL HB HS hlen e1
    go_enter Try.func6, Try.ntmps6
    go_wp2_with (go_at_call 17; refine (c1.out _).mono ?_; rintro e w' ⟨rfl, rfl⟩)
    go_ret
    exact ⟨rfl, by (repeat first | with_reducible assumption | with_reducible exact Below.refl _ _ | (with_reducible refine Below.alloc ?_ ?side _; case side => (first | omega | (with_reducible exact Below.size (by assumption)) | (simp; done) | (simp; omega))) | (with_reducible refine Below.setCell ?_ ?side _; case side => (first | omega | (with_reducible exact Below.size (by assumption)) | (simp; done) | (simp; omega))) | with_reducible refine Below.drew ?_ | with_reducible refine below_drewN ?_ _ | (with_reducible refine below_step (by assumption) ?side ?_; case side => (first | omega | (with_reducible exact Below.size (by assumption)) | (simp; done) | (simp; omega))))⟩
  rw [e1] at c1
  have hlk := wn_true.1 e1
  replace c1 := Lib.hid c1
  rw [Bool.true_and]
  have hok := ok.lk
  have HTO := Lib.hid (fun (h : ∀ k, k < ns → (lvAt lv k).lo ≤ iAt us k ∧ iAt us k ≤ (lvAt lv k).hi) => (⟨ok, hlg, by omega, h, hlen⟩ : TrOk ns nb wa l0 l1 wrg lv bl us lk))
  have HWG := Lib.hid (fun h V (hV : Below w.heap.size w V) => Wrongs3_c Al ns cl wa l0 l1 Ab nb cb wrg lv bl SA sc us lk V (HTO.out h) (HL.later hV) (HB.later hV) (HS.later hV))
  have HLI := Lib.hid HL
  have HSI := Lib.hid HS
  have HF : Hid (∀ k, k < ns → wn (iAt us k) (lvAt lv k).lo (lvAt lv k).hi = false → (allN ns fun k => wn (iAt us k) (lvAt lv k).lo (lvAt lv k).hi) = false) := Lib.hid (fun k hk h => allN_no hk h)
  have HY : Hid ((∀ k, k < ns → wn (iAt us k) (lvAt lv k).lo (lvAt lv k).hi = true) → (allN ns fun k => wn (iAt us k) (lvAt lv k).lo (lvAt lv k).hi) = true) := Lib.hid (fun h => allN_iff.2 h)
  obtain ⟨AL, hAL⟩ : ∃ b, (allN ns fun k => wn (iAt us k) (lvAt lv k).lo (lvAt lv k).hi) = b := ⟨_, rfl⟩
  rw [hAL] at HF HY ⊢
  obtain ⟨cw, hcw⟩ : ∃ b, wr3 wa (abK lv ns) bl (tS3 us lk) nb = b := ⟨_, rfl⟩
  rw [hcw] at HWG ⊢
  clear HL HB HS ok hlg hlk hok e1 hAL hcw HTO hlen
  go_enter Try.func6, Try.ntmps6
  go_upto_region 1 with (fail)
  go_name_world X hX
  have BX : Below w.heap.size w X := (al2 hX).1
  have HPX : Hid (Blk X w.heap.size 27 #[Value.slice Al ns cl, .int .i64 wa, .int .i64 l0, .int .i64 l1, .slice Ab nb cb, .int .i64 wrg]) := by rw [← hX]; exact Lib.hid ((Blk.new w _ _).alloc _)
  have HQX : Hid (Blk X (w.heap.size + 1) 30 #[.slice SA ns sc, .int .i64 lk]) := by
    rw [← hX]
    have := Blk.new (w.alloc (.cells #[Value.slice Al ns cl, .int .i64 wa, .int .i64 l0, .int .i64 l1, .slice Ab nb cb, .int .i64 wrg] 27)) 30 #[.slice SA ns sc, .int .i64 lk]
    rw [World.size_alloc] at this
    exact Lib.hid this
  have cP := HPX.out.cell
  have lP := HPX.out.lt
  have cQ := HQX.out.cell
  have lQ := HQX.out.lt
  clear hX
  go_wp2_with (go_at_call 17; refine (c1.out _).mono ?_; rintro e w' ⟨rfl, rfl⟩)
  clear cP lP cQ lQ
  go_loopw [5] (fun i (wr : World) => ∃ k : Nat, k ≤ ns ∧ i = .int .i64 k ∧ Hid (∀ j, j < k → wn (iAt us j) (lvAt lv j).lo (lvAt lv j).hi = true) ∧ Below X.heap.size X wr) (fun i _ => ns - (intOf i).toNat)
  case atStart => exact ⟨0, by omega, by simp, Lib.hid (fun j hj => absurd hj (by omega)), Below.refl _ _⟩
  case round =>
    obtain ⟨k, hk, rfl, H1, hb⟩ := hrel
    have zb := hb.size
    have HPR := Lib.hid (HPX.out.below hb HPX.out.lt)
    have HQR := Lib.hid (HQX.out.below hb HQX.out.lt)
    have cP := HPR.out.cell
    have lP := HPR.out.lt
    have cQ := HQR.out.cell
    have lQ := HQR.out.lt
    have hbw := Lib.hid (BX.trans (hb.mono BX.size))
    by_cases hlt : k < ns
    · have hqB : decide ((k : Int) < ns) = true := decide_eq_true (by omega)
      have vk : IntKind.i64.wrap ((k : Int) + 1) = (k : Int) + 1 := IntWalk.i64_in _ (by omega)
      obtain ⟨b, off, eA, hbl, x0, x1, x2⟩ := (HLI.out.later hbw.out).get hlt
      cases eA
      obtain ⟨sb, so, eS, hsb, y0⟩ := (HSI.out.later hbw.out).get hlt
      cases eS
      have HFK := HF.out k hlt
      have HN : Hid (wn (iAt us k) (lvAt lv k).lo (lvAt lv k).hi = true → ∀ j, j < k + 1 → wn (iAt us j) (lvAt lv j).lo (lvAt lv j).hi = true) := Lib.hid (fun h j hj => by
        rcases Nat.lt_succ_iff_lt_or_eq.1 hj with h' | rfl
        · exact H1.out j h'
        · exact h)
      obtain ⟨x, hx⟩ : ∃ x, lvAt lv k = x := ⟨_, rfl⟩
      obtain ⟨u, hu⟩ : ∃ x, iAt us k = x := ⟨_, rfl⟩
      rw [hx] at x0 x1 x2 HFK HN
      rw [hu] at y0 HFK HN
      obtain ⟨lg, lo, hi⟩ := x
      simp only at x0 x1 x2 HFK HN
      have d1 := fun V => refWithin3_b u lo hi V
      clear hx hu
      cases e1 : wn u lo hi
      · rw [e1] at d1
        have hR := Lib.hid (HFK e1)
        replace d1 := Lib.hid d1
        clear e1 HFK
        go_upto_region 6 with (fail)
        have hcq := fun p : Regrown => (bcell (below_regrown wr p.d p.os)).1
        refine wp_region_quiet_below (by kernel_rfl) (by kernel_rfl) ?_
        repeat (go_big_quiet_step ((go_at_call 17; exact Calls.regrown_of (d1.out _))))
        refine wpQuiet_nil ?_
        intro wq hq
        obtain ⟨pq, hq⟩ := hq
        have hbq : Below wr.heap.size wr wq := by rw [hq]; exact below_regrown _ _ _
        clear hq hcq pq
        obtain ⟨hcq, hfq⟩ := bcell hbq
        have zq := hbq.size
        have BQ := Lib.hid (hbw.out.trans (hbq.mono hbw.out.size))
        clear hcq hfq hbq cP cQ x0 x1 x2 y0
        go_wp2_with fail
        go_ret
        exact ⟨ret_bool (by rw [hR.out]; rfl), BQ.out⟩
      · rw [e1] at d1
        replace d1 := Lib.hid d1
        have HN2 := Lib.hid (HN.out e1)
        clear e1 HFK
        go_upto_region 6 with (fail)
        have hcq := fun p : Regrown => (bcell (below_regrown wr p.d p.os)).1
        refine wp_region_quiet_below (by kernel_rfl) (by kernel_rfl) ?_
        repeat (go_big_quiet_step ((go_at_call 17; exact Calls.regrown_of (d1.out _))))
        refine wpQuiet_nil ?_
        intro wq hq
        obtain ⟨pq, hq⟩ := hq
        have hbq : Below wr.heap.size wr wq := by rw [hq]; exact below_regrown _ _ _
        clear hq hcq pq
        obtain ⟨hcq, hfq⟩ := bcell hbq
        have zq := hbq.size
        have BQ := Lib.hid (hb.trans (hbq.mono zb))
        clear hcq hfq hbq cP cQ x0 x1 x2 y0
        go_wp2_with fail
        go_roundw
        case rel => exact ⟨k + 1, by omega, by go_num, HN2, BQ.out⟩
        case measure => simp [intOf]; omega
    · obtain rfl : ns = k := by omega
      have hqB : decide (((ns : Nat) : Int) < ns) = false := decide_eq_false (by omega)
      have hR := Lib.hid (HY.out H1.out)
      have HC := Lib.hid (HWG.out (fun k hk => wn_true.1 (H1.out k hk)))
      go_upto_region 8 with (fail)
      have hcq := fun p : Regrown => (bcell (below_regrown wr p.d p.os)).1
      refine wp_region_quiet_below (by kernel_rfl) (by kernel_rfl) ?_
      repeat (go_big_quiet_step ((go_at_call 18; exact Calls.regrown_of (HC.out _ (hbw.out.trans ((below_regrown _ _ _).mono hbw.out.size))))))
      refine wpQuiet_nil ?_
      intro wq hq
      obtain ⟨pq, hq⟩ := hq
      have hbq : Below wr.heap.size wr wq := by rw [hq]; exact below_regrown _ _ _
      clear hq hcq pq
      obtain ⟨hcq, hfq⟩ := bcell hbq
      have zq := hbq.size
      have BQ := Lib.hid (hbw.out.trans (hbq.mono hbw.out.size))
      clear hcq hfq hbq cP cQ
      go_wp2_with fail
      go_ret
      exact ⟨ret_bool (by rw [hR.out]; simp), BQ.out⟩
end

end Go.Proofs.Ytcinhibmohkeiaa
