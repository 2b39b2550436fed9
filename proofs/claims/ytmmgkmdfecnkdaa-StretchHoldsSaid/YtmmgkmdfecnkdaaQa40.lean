/- Next of stretch (layer 4), walked: the rod that should be compared. -/
import Derived.Test.YtmmgkmdfecnkdaaQa39
import Derived.Shelf.Abstract
import Derived.Laws.EntriesVeiled
import Derived.Handy
import Derived.Deep.DrawnRows
import Derived.Deep.DeepCutAuto
import Derived.BigRegionIn
import Derived.RangeFuncCalls
namespace Go.Proofs.Ytmmgkmdfecnkdaa
open Go.RowKit
open Go.Sort (grow)
set_option linter.unusedVariables false
set_option linter.unusedSimpArgs false

attribute [local go_sem high] run_min24 run_max24
set_option maxRecDepth 100000 in
set_option maxHeartbeats 6400000 in
theorem next4_c (Ar : Option Addr) (nr cr : Nat) (Ad : Option Addr) (nd cd : Nat) (p : P4) (w : World) (hnr : nr ≤ 40) (hnd : nd ≤ 40) (HM : MemP Ar nr Ad nd p w) (hn : ck4 p = true → (tr4 p).length ≤ 90000) :
    Calls Try.prog 28 #[.agg #[.int .i64 p.ir, .int .i64 p.glo, .int .i64 p.ghi, .slice Ar nr cr, .slice Ad nd cd, .int .i64 p.wr]] w fun e w' => e = .returned (.tuple #[.int .i64 (nxv4 p), .int .i64 (nxe4 p)]) ∧ Below w.heap.size w w' := by
  have HOP := Lib.hid (fun V (hV : Below w.heap.size w V) => open4_c Ar nr cr Ad nd cd p true V hnr hnd (HM.later hV) hn)
  have hr := HM.hr.1
  have hd := HM.hd.1
  unfold Op4 at HOP
  by_cases hz0 : op4 p true = 0
  case neg =>
    have h1 : nxv4 p = 0 := by unfold nxv4; rw [show (op4 p true == 0) = false by simpa using hz0]; rfl
    have h2 : nxe4 p = op4 p true := by unfold nxe4; rw [show (op4 p true == 0) = false by simpa using hz0]; rfl
    rw [h1, h2]
    obtain ⟨z, hz⟩ : ∃ z, op4 p true = z := ⟨_, rfl⟩
    rw [hz] at HOP hz0 ⊢
    have hzb : (z == 0) = false := by simpa using hz0
    have hzn : (z != 0) = true := by simpa using hz0
    obtain ⟨l, hll⟩ : ∃ l, ol4 p true = l := ⟨_, rfl⟩
    rw [hll] at HOP
    clear HM hr hd hz hll h1 h2 hz0 hn
    obtain ⟨ir, glo, ghi, wrg, rods, res⟩ := p
    simp only at HOP ⊢
    go_enter Try.func28, Try.ntmps28
    go_upto_region 1 with (fail)
    go_name_world X hX
    have BX : Below w.heap.size w X := (al1 hX).1
    have HPX : Hid (Blk X w.heap.size 27 #[Value.int .i64 ir, .int .i64 glo, .int .i64 ghi, .slice Ar nr cr, .slice Ad nd cd, .int .i64 wrg]) := by rw [← hX]; exact Lib.hid (Blk.new w _ _)
    have qX := HPX.out.cell
    have lX := HPX.out.lt
    clear hX
    go_upto_region 2 with (go_at_call 44; refine (HOP.out X BX).mono ?_; (rintro e w1 ⟨A, c, hs, rfl, -, hb1⟩); (have B1 := BX.trans (hb1.mono BX.size)); clear hb1)
    go_name_world Y hY
    have BY := Lib.hid (B1.trans ((al2 hY).1.mono B1.size))
    clear hY
    go_wp2_with fail
    exact bodyPost_ret (v := .tuple #[.int .i64 0, .int .i64 z]) (by simp [results, Try.results28, go_sem]) rfl ⟨rfl, BY.out⟩
  obtain ⟨-, hck, hol, -⟩ := op4_ol hz0
  have ok := ok4_of hck hr hd
  have hle := hn hck
  have HLO : Hid (∀ (q : Nat) (hq : q < nr) (A : Option Addr) (c : Nat) (hs : List Hb) (base : Nat) (V : World) (HB : BsAt4 0 base V A (tr4 p).length hs (tr4 p)),
      Calls Try.prog 48 #[.slice A (tr4 p).length c, .int .i64 (q : Nat)] V fun e w' => ∃ A c, e = .returned (.slice A (rl4 (tr4 p) q).length c) ∧ IntsAt w' A (rl4 (tr4 p) q).length (rl4 (tr4 p) q) ∧ Below V.heap.size V w') := Lib.hid (fun q hq A c hs base V HB =>
    lengthsOf4_c A _ c 0 base hs (tr4 p) q (by have := ok.nr4; omega) V hle HB (fun x hx => ol4_okw (p := p) (is := true) x (by rw [hol]; exact hx)))
  have HCO := Lib.hid (fun (q : Nat) (hq : q < nr) (x : Int) g5 g9 g13 A c hs B0 V (hB0 : B0 ≤ V.heap.size) (HN : NxM g5 g9 g13 A (tr4 p).length c hs (tr4 p) B0 q x V) =>
    collect4_c 60 #[] #[.pointer (some ⟨g5, 0, none⟩), .pointer (some ⟨g9, 0, none⟩), .pointer (some ⟨g13, 0, none⟩)] (NxM g5 g9 g13 A (tr4 p).length c hs (tr4 p) B0 q x) (lfB4 (tr4 p) q x) B0 (nextIt4_c g5 g9 g13 A _ c hs (tr4 p) B0 q x (by have := ok.nr4; omega) hle) (enters_of Try.func60 (by kernel_rfl) rfl) (Nat.le_trans (List.length_filter_le _ _) hle) V hB0 (fun V' h => HN.later h))
  have HEN := Lib.hid (fun (q : Nat) (x : Int) A c B0 base hs V (HB : BsAt4 B0 base V A (lfB4 (tr4 p) q x).length hs (lfB4 (tr4 p) q x)) =>
    ends4_c A (lfB4 (tr4 p) q x).length c B0 base hs (lfB4 (tr4 p) q x) V (Nat.le_trans (List.length_filter_le _ _) hle) HB (fun y hy => ol4_ok (p := p) (is := true) (by omega) (by omega) y (by rw [hol]; exact (List.mem_filter.1 hy).1)))
  have HIN := Lib.hid (fun (q : Nat) (x : Int) => enB4_in ok q x)
  have HWI := Lib.hid (fun (q : Nat) (L : List Int) (k : Nat) => wsP4_in ok q L k)
  have HWS : Hid (∀ (q : Nat) (L : List Int) (i : Nat), wsP4 (tr4 p) q L (i + 1) = max (wsP4 (tr4 p) q L i) ((en4 (lfB4 (tr4 p) q (iAt L i)) (lfB4 (tr4 p) q (iAt L i)).length).hi - (en4 (lfB4 (tr4 p) q (iAt L i)) (lfB4 (tr4 p) q (iAt L i)).length).lo)) := Lib.hid (fun q L i => wsP4_succ)
  have HLL := Lib.hid (fun (q : Nat) (hq : q < nr) => rl4_len ok hq)
  have hnr4 := ok.nr4
  have hv : Hid (nxv4 p = if nxb4 p < 0 then 0 else nxb4 p) := Lib.hid (by unfold nxv4; rw [hz0]; rfl)
  have he : Hid (nxe4 p = if nxb4 p < 0 then 3 else 0) := Lib.hid (by unfold nxe4; rw [hz0]; rfl)
  have hB : Hid (nxb4 p = (nxK4 (fun q => rl4 (tr4 p) q) (fun q => wsP4 (tr4 p) q (rl4 (tr4 p) q) (rl4 (tr4 p) q).length) nr).1) := Lib.hid (by unfold nxb4; rw [hr])
  have HML : Hid (∀ q, wsP4 (tr4 p) q (rl4 (tr4 p) q) 0 = 0) := Lib.hid fun q => rfl
  rw [hz0, hol] at HOP
  obtain ⟨M, hM⟩ : ∃ M : Nat → Int, (fun q => wsP4 (tr4 p) q (rl4 (tr4 p) q) (rl4 (tr4 p) q).length) = M := ⟨_, rfl⟩
  have HME : Hid (∀ q, wsP4 (tr4 p) q (rl4 (tr4 p) q) (rl4 (tr4 p) q).length = M q) := Lib.hid fun q => congrFun hM q
  rw [hM] at hB
  obtain ⟨l, hll⟩ : ∃ l, tr4 p = l := ⟨_, rfl⟩
  rw [hll] at HOP HLO HCO HEN HIN HWI HWS HLL HML HME hB
  obtain ⟨L, hL⟩ : ∃ L : Nat → List Int, (fun q => rl4 l q) = L := ⟨_, rfl⟩
  have hLe : ∀ q, rl4 l q = L q := fun q => congrFun hL q
  simp only [hLe] at HLO HLL HML HME
  rw [hL] at hB
  obtain ⟨m, hm⟩ : ∃ m, l.length = m := ⟨_, rfl⟩
  rw [hm] at HOP HLO HCO
  obtain ⟨WS, hWS⟩ : ∃ f, wsP4 l = f := ⟨_, rfl⟩
  rw [hWS] at HWI HWS HML HME
  obtain ⟨LF, hLF⟩ : ∃ f, lfB4 l = f := ⟨_, rfl⟩
  rw [hLF] at HCO HEN HIN HWS
  obtain ⟨rv, hrv⟩ : ∃ v, nxv4 p = v := ⟨_, rfl⟩
  obtain ⟨re, hre⟩ : ∃ v, nxe4 p = v := ⟨_, rfl⟩
  obtain ⟨rb, hrb⟩ : ∃ v, nxb4 p = v := ⟨_, rfl⟩
  rw [hrv, hre]
  rw [hrv, hrb] at hv
  rw [hre, hrb] at he
  rw [hrb] at hB
  clear HM hr hd hck hol ok hle hn hz0 hll hM hL hLe hm hWS hLF hrv hre hrb
  obtain ⟨ir, glo, ghi, wrg, rods, res⟩ := p
  simp only at HOP ⊢
  go_enter Try.func28, Try.ntmps28
  go_upto_region 1 with (fail)
  go_name_world X hX
  have BX : Below w.heap.size w X := (al1 hX).1
  have HPX : Hid (Blk X w.heap.size 27 #[Value.int .i64 ir, .int .i64 glo, .int .i64 ghi, .slice Ar nr cr, .slice Ad nd cd, .int .i64 wrg]) := by rw [← hX]; exact Lib.hid (Blk.new w _ _)
  have qX := HPX.out.cell
  have lX := HPX.out.lt
  clear hX
  go_upto_region 2 with (go_at_call 44; refine (HOP.out X BX).mono ?_; (rintro e w1 ⟨A, c, hs, rfl, hBs, hb1⟩); (have B1 := BX.trans (hb1.mono BX.size)); (have HP1 := Lib.hid (HPX.out.below hb1 HPX.out.lt)); (have HBs := Lib.hid hBs); clear hb1 hBs)
  go_name_world Y hY
  have BYY : Below w1.heap.size w1 Y := (al2 hY).1
  have zY := (al2 hY).2
  have BY := Lib.hid (B1.trans (BYY.mono B1.size))
  have HPY := Lib.hid (HP1.out.below BYY HP1.out.lt)
  have HBY : Hid (BsAt4 0 0 Y A m hs l) := Lib.hid ((HBs.out.later BYY).lower (Nat.zero_le _))
  have HLY : Hid (∀ k, k < m → (∀ a, (hbAt hs k).b.A = some a → a.block < w1.heap.size) ∧ (∀ a, (hbAt hs k).a.A = some a → a.block < w1.heap.size)) := Lib.hid (fun k hk => ⟨fun a e => ((HBs.out.inn k hk).b.2 a e).2, fun a e => ((HBs.out.inn k hk).a.2 a e).2⟩)
  have HLB : Hid (Blk Y (w1.heap.size + 1) 75 #[.slice A m c]) := by
    rw [← hY]
    have := Blk.new (w1.alloc (.cells #[.int .i64 ir, .int .i64 glo, .int .i64 ghi, .slice Ar nr cr, .slice Ad nd cd, .int .i64 wrg] 62)) 75 #[.slice A m c]
    rw [World.size_alloc] at this
    exact Lib.hid this
  have qY := HPY.out.cell
  have lY := HPY.out.lt
  have ZY : Hid (w1.heap.size ≤ Y.heap.size) := Lib.hid (by omega)
  clear hY qX lX BX HPX B1 zY BYY HOP
  go_wp2_with fail
  clear qY
  go_loopw [7, 8, 27] (fun b y i (wr : World) => ∃ k : Nat, k ≤ nr ∧ i = .int .i64 k ∧ b = .int .i64 (nxK4 L M k).1 ∧ y = .int .i64 (nxK4 L M k).2 ∧ Below Y.heap.size Y wr) (fun _ _ i _ => nr - (intOf i).toNat)
  case atStart => exact ⟨0, by omega, by simp, rfl, rfl, Below.refl _ _⟩
  case round =>
    obtain ⟨k, hk, rfl, rfl, rfl, hb⟩ := hrel
    have zb := hb.size
    by_cases hlt : k < nr
    · have hqB : decide ((k : Int) < nr) = true := decide_eq_true (by omega)
      have vk : IntKind.i64.wrap ((k : Int) + 1) = (k : Int) + 1 := IntWalk.i64_in _ (by omega)
      have HC := Lib.hid (fun V (hV : Below Y.heap.size Y V) => HLO.out k hlt A c hs 0 V (HBY.out.later hV))
      have HCK := Lib.hid (fun x g9 g13 V (hB0 : w1.heap.size ≤ V.heap.size) HN => HCO.out k hlt x (w1.heap.size + 1) g9 g13 A c hs w1.heap.size V hB0 HN)
      have HEK := Lib.hid (HEN.out k)
      have HIK := Lib.hid (HIN.out k)
      have HWK := Lib.hid (HWI.out k (L k))
      have HSU := Lib.hid (HWS.out k (L k))
      have HM0 := Lib.hid (HML.out k)
      have HMK := Lib.hid (HME.out k)
      have h10 := HLL.out k hlt
      have HSK := Lib.hid (fun h => nxK4_skip (L := L) (M := M) (k := k) h)
      have HTK := Lib.hid (fun h h2 => nxK4_take (L := L) (M := M) (k := k) h h2)
      have HKP := Lib.hid (fun h h2 => nxK4_keep (L := L) (M := M) (k := k) h h2)
      obtain ⟨⟨vb, vy⟩, hvb⟩ : ∃ s, nxK4 L M k = s := ⟨_, rfl⟩
      rw [hvb] at HSK HTK HKP ⊢
      obtain ⟨lk, hlk⟩ : ∃ x, L k = x := ⟨_, rfl⟩
      rw [hlk] at HSK HTK HKP HC h10 HWK HSU HM0 HMK
      obtain ⟨n, hn⟩ : ∃ n, lk.length = n := ⟨_, rfl⟩
      rw [hn] at HSK HTK HKP HC h10 HMK
      obtain ⟨ws, hws⟩ : ∃ f, WS k lk = f := ⟨_, rfl⟩
      rw [hws] at HWK HSU HM0 HMK
      obtain ⟨mk, hmk⟩ : ∃ x, M k = x := ⟨_, rfl⟩
      rw [hmk] at HTK HKP HMK
      obtain ⟨lf, hlf⟩ : ∃ f, LF k = f := ⟨_, rfl⟩
      rw [hlf] at HCK HEK HIK HSU
      simp only at HTK HKP ⊢
      clear hvb hlk hn hws hmk hlf
      go_upto_region 8 with (fail)
      go_name_world V hV
      have BV : Below wr.heap.size wr V := (al1 hV).1
      have HR : Hid (Blk V wr.heap.size 3 #[.int .i64 k]) := by rw [← hV]; exact Lib.hid (Blk.new wr _ _)
      have BYV := Lib.hid (hb.trans (BV.mono zb))
      have HLV := Lib.hid (HLB.out.below BYV.out HLB.out.lt)
      have cr := HR.out.cell
      have lr := HR.out.lt
      have cl := HLV.out.cell
      have ll := HLV.out.lt
      have HCV := Lib.hid (HC.out V BYV.out)
      clear hV BV
      go_upto_region 9 with (go_at_call 48; refine HCV.out.mono ?_; (rintro e w2 ⟨B, d, rfl, hI, hb2⟩); (have B2 := Lib.hid (BYV.out.trans (hb2.mono BYV.out.size))); (have HI := Lib.hid hI); (have HR2 := Lib.hid (HR.out.below hb2 HR.out.lt)); clear hb2 hI cr cl lr ll)
      by_cases h2 : n < 2
      · have h2B : decide ((n : Int) < 2) = true := decide_eq_true (by omega)
        have HN := Lib.hid (HSK.out h2)
        clear HSK HTK HKP
        go_wp2_with fail
        go_roundw
        case rel => exact ⟨k + 1, by omega, by go_num, by rw [HN.out], by rw [HN.out], B2.out⟩
        case measure => simp [intOf]; omega
      · have h2B : decide ((n : Int) < 2) = false := decide_eq_false (by omega)
        have hm0 := HM0.out
        clear hqB vk
        go_wp2_with fail
        go_loopw [11, 38] (fun v i (wr : World) => ∃ j : Nat, j ≤ n ∧ i = .int .i64 j ∧ v = .int .i64 (ws j) ∧ Below w2.heap.size w2 wr) (fun _ i _ => n - (intOf i).toNat)
        case atStart => exact ⟨0, by omega, by simp, by rw [hm0], Below.refl _ _⟩
        case round =>
          obtain ⟨j, hj, rfl, rfl, hb3⟩ := hrel
          have zb3 := hb3.size
          have hwj := HWK.out j
          by_cases hlt3 : j < n
          · have hjB : decide ((j : Int) < n) = true := decide_eq_true (by omega)
            have vj : IntKind.i64.wrap ((j : Int) + 1) = (j : Int) + 1 := IntWalk.i64_in _ (by omega)
            obtain ⟨b, o, eB, hbl, x0⟩ := (HI.out.later hb3).get hlt3
            subst eB
            have HSJ := HSU.out j
            obtain ⟨x, hx⟩ : ∃ x, iAt lk j = x := ⟨_, rfl⟩
            rw [hx] at x0 HSJ
            have hei := HIK.out x
            have HCX := Lib.hid (HCK.out x)
            have HEX := Lib.hid (HEK.out x)
            obtain ⟨ll, hll⟩ : ∃ f, lf x = f := ⟨_, rfl⟩
            rw [hll] at HSJ hei HCX HEX
            obtain ⟨ln, hln⟩ : ∃ f, ll.length = f := ⟨_, rfl⟩
            rw [hln] at HSJ hei HCX HEX
            obtain ⟨sl, hsl⟩ : ∃ s, (en4 ll ln).lo = s := ⟨_, rfl⟩
            obtain ⟨sh, hsh⟩ : ∃ s, (en4 ll ln).hi = s := ⟨_, rfl⟩
            rw [hsl, hsh] at HSJ hei HEX
            obtain ⟨v, hv'⟩ : ∃ v, ws j = v := ⟨_, rfl⟩
            rw [hv'] at HSJ hwj ⊢
            have vs : IntKind.i64.wrap (sh - sl) = sh - sl := IntWalk.i64_in _ (by omega)
            have HSJ := Lib.hid HSJ
            clear hx hll hln hsl hsh hv'
            go_upto_region 14 with (fail)
            go_name_world V2 hV2
            have BV2 : Below wr.heap.size wr V2 := (al1 hV2).1
            have HNB : Hid (Blk V2 wr.heap.size 3 #[.int .i64 x]) := by rw [← hV2]; exact Lib.hid (Blk.new wr _ _)
            have BW := Lib.hid (hb3.trans (BV2.mono zb3))
            have BYW := Lib.hid (B2.out.trans (BW.out.mono B2.out.size))
            have HRW := Lib.hid (HR2.out.below BW.out HR2.out.lt)
            have HNX : Hid (w1.heap.size ≤ V2.heap.size) := Lib.hid (Nat.le_trans ZY.out BYW.out.size)
            have HCC := Lib.hid (HCX.out _ _ V2 HNX.out ⟨HBY.out.later BYW.out, HLY.out, HLB.out.below BYW.out HLB.out.lt, HRW.out, HNB.out⟩)
            clear hV2 x0 BV2
            go_upto_region 15 with (first | (go_at_call 59; refine HCC.out.mono ?_; (rintro e w3 ⟨C, cc, gs, rfl, hBs3, hb4⟩); (have HEC := Lib.hid (HEX.out C cc _ _ gs w3 hBs3)); (have B4 := Lib.hid (BW.out.trans (hb4.mono BW.out.size))); clear hb4 hBs3) | (go_at_call 54; refine HEC.out.mono ?_; (rintro e w4 ⟨rfl, hb5⟩); (have B5 := Lib.hid (B4.out.trans (hb5.mono B4.out.size))); clear hb5))
            go_name_world V3 hV3
            have BV3 : Below w4.heap.size w4 V3 := (al1 hV3).1
            have q3 := (al1_0 hV3).2.1
            have l3 := (al1_0 hV3).1
            have B6 := Lib.hid (B5.out.trans (BV3.mono B5.out.size))
            clear hV3 BV3
            go_wp2_with fail
            go_roundw
            case rel => exact ⟨j + 1, by omega, by go_num, by rw [HSJ.out], B6.out⟩
            case measure => simp [intOf]; omega
          · obtain rfl : n = j := by omega
            have hjB : decide (((n : Nat) : Int) < n) = false := decide_eq_false (by omega)
            have hmk := HMK.out
            have vk : IntKind.i64.wrap ((k : Int) + 1) = (k : Int) + 1 := IntWalk.i64_in _ (by omega)
            have HRW := Lib.hid (HR2.out.below hb3 HR2.out.lt)
            have cr := HRW.out.cell
            have lr := HRW.out.lt
            have B7 := Lib.hid (B2.out.trans (hb3.mono B2.out.size))
            rw [hmk]
            clear hmk
            by_cases c1 : vb < 0
            · have c1B : decide (vb < 0) = true := decide_eq_true c1
              have HN := Lib.hid (HTK.out h2 (.inl c1))
              clear HSK HTK HKP c1
              go_wp2_with fail
              go_roundw
              case rel => exact ⟨k + 1, by omega, by go_num, by rw [HN.out], by rw [HN.out], B7.out⟩
              case measure => simp [intOf]; omega
            · have c1B : decide (vb < 0) = false := decide_eq_false c1
              by_cases c2 : mk < vy
              · have c2B : decide (mk < vy) = true := decide_eq_true c2
                have HN := Lib.hid (HTK.out h2 (.inr c2))
                clear HSK HTK HKP c1 c2
                go_wp2_with fail
                go_roundw
                case rel => exact ⟨k + 1, by omega, by go_num, by rw [HN.out], by rw [HN.out], B7.out⟩
                case measure => simp [intOf]; omega
              · have c2B : decide (mk < vy) = false := decide_eq_false c2
                have HN := Lib.hid (HKP.out h2 (by rintro (h | h) <;> omega))
                clear HSK HTK HKP c1 c2
                go_wp2_with fail
                go_roundw
                case rel => exact ⟨k + 1, by omega, by go_num, by rw [HN.out], by rw [HN.out], B7.out⟩
                case measure => simp [intOf]; omega
    · obtain rfl : nr = k := by omega
      have hqB : decide (((nr : Nat) : Int) < nr) = false := decide_eq_false (by omega)
      have hB := hB.out
      have hv := hv.out
      have he := he.out
      have B7 := Lib.hid (BY.out.trans (hb.mono BY.out.size))
      rw [← hB]
      clear hB HLL
      by_cases c1 : rb < 0
      · have c1B : decide (rb < 0) = true := decide_eq_true c1
        rw [if_pos c1] at hv he
        subst hv he
        go_wp2_with fail
        exact bodyPost_ret (v := .tuple #[.int .i64 0, .int .i64 3]) (by simp [results, Try.results28, go_sem]) rfl ⟨rfl, B7.out⟩
      · have c1B : decide (rb < 0) = false := decide_eq_false c1
        rw [if_neg c1] at hv he
        subst hv he
        go_wp2_with fail
        exact bodyPost_ret (v := .tuple #[.int .i64 rv, .int .i64 0]) (by simp [results, Try.results28, go_sem]) rfl ⟨rfl, B7.out⟩

end Go.Proofs.Ytmmgkmdfecnkdaa
