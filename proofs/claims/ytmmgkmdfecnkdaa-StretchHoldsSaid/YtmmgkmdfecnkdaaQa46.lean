/- worst and Next of the specification (layer 4), walked; Next of the specification (layer 4), walked. -/
import Derived.Test.YtmmgkmdfecnkdaaQa43
import Derived.Shelf.Abstract
import Derived.Laws.EntriesVeiled
import Derived.Handy
import Derived.Deep.DrawnRows
import Derived.Deep.DeepCutAuto
namespace Go.Proofs.Ytmmgkmdfecnkdaa
open Go.RowKit
open Go.Sort (grow)
set_option linter.unusedVariables false
set_option linter.unusedSimpArgs false

attribute [local go_sem high] run_min24 run_max24
set_option maxRecDepth 100000 in
set_option maxHeartbeats 3200000 in
theorem refworst4_c (nr : Nat) (LA : Option Addr) (n lc : Nat) (hs : List Th4) (ts : List (Int × Int × W4)) (q : Nat) (BA : Option Addr) (bn bc : Nat) (L : List Int) (w : World) (HT : ThsAt nr w LA n hs ts) (HL : IntsAt w BA bn L) (hn : n ≤ 90000) (hbn : bn ≤ 90000) (hq : q < nr) (hnr : nr ≤ 40)
    (hok : ∀ t ∈ ts, (0 ≤ t.1 ∧ t.1 ≤ 99999) ∧ (0 ≤ t.2.1 ∧ t.2.1 ≤ 99999)) :
    Calls Try.prog 61 #[.slice LA n lc, .int .i64 q, .slice BA bn bc] w fun e w' => e = .returned (.int .i64 (wsR4 ts q L bn)) ∧ Below w.heap.size w w' := by
  have HTI := Lib.hid HT
  have HLI := Lib.hid HL
  have HML : Hid (ts.length = n) := Lib.hid HT.tl
  have HOK := Lib.hid hok
  have HWI := Lib.hid (fun k => wsR4_in (q := q) (L := L) hok k)
  have HST := Lib.hid (fun (x : Int) A c gs V (HV : ThsAt nr V A (lfT4 ts q x).length gs (lfT4 ts q x)) => refstretch4_c nr A _ c gs (lfT4 ts q x) V HV (by
    have : (lfT4 ts q x).length ≤ ts.length := List.length_filter_le _ _
    have := HML.out
    omega) (fun k hk => hok _ (List.mem_filter.1 (tuAt_mem hk)).1))
  have HSI := Lib.hid (fun (x : Int) => stK4_in (ts := lfT4 ts q x) (fun t ht => hok t (List.mem_filter.1 ht).1))
  clear HT HL hok
  go_enter Try.func61, Try.ntmps61
  go_wp2_with fail
  go_loopw [7, 8] (fun v i (wr : World) => ∃ k : Nat, k ≤ bn ∧ i = .int .i64 k ∧ v = .int .i64 (wsR4 ts q L k) ∧ Below w.heap.size w wr) (fun _ i _ => bn - (intOf i).toNat)
  case atStart => exact ⟨0, by omega, by simp, rfl, Below.refl _ _⟩
  case round =>
    obtain ⟨k, hk, rfl, rfl, hb⟩ := hrel
    obtain ⟨wo, rfl⟩ : ∃ wo : World, wo = wr := ⟨_, rfl⟩
    have zb := hb.size
    have hwi := HWI.out k
    by_cases hlt : k < bn
    · have hqB : decide ((k : Int) < bn) = true := decide_eq_true (by omega)
      have vk : IntKind.i64.wrap ((k : Int) + 1) = (k : Int) + 1 := IntWalk.i64_in _ (by omega)
      have HWS := Lib.hid (wsR4_succ (ts := ts) (q := q) (L := L) (i := k))
      have HLK := Lib.hid ((HLI.out.later hb))
      obtain ⟨lb, lo, eL, hlb, x0⟩ := HLK.out.get hlt
      cases eL
      obtain ⟨x, hx⟩ : ∃ x, iAt L k = x := ⟨_, rfl⟩
      rw [hx] at x0 HWS
      obtain ⟨v, hv⟩ : ∃ v, wsR4 ts q L k = v := ⟨_, rfl⟩
      rw [hv] at HWS hwi ⊢
      have X0 := Lib.hid (fun V (h : Below wo.heap.size wo V) => (h.cell (p := ⟨lb, lo + k, none⟩) hlb).trans x0)
      clear hx hv x0
      go_wp2_with fail
      go_loopw [9, 10] (fun u i (wr : World) => ∃ (t : Nat) (gs : List Th4), t ≤ n ∧ i = .int .i64 t ∧ Hid (OwnThs nr wo.heap.size wr u (tlK4 (fun t => t.2.2.at_ q == x) ts t).length gs (tlK4 (fun t => t.2.2.at_ q == x) ts t)) ∧ Below wo.heap.size wo wr) (fun _ i _ => n - (intOf i).toNat)
      case atStart => exact ⟨0, [], by omega, by simp, Lib.hid (OwnThs.nil nr wo wo.heap.size), Below.refl _ _⟩
      case round =>
        obtain ⟨t, gs, ht, rfl, HO, hb2⟩ := hrel
        have zb2 := hb2.size
        by_cases hlt2 : t < n
        · have hqB2 : decide ((t : Int) < n) = true := decide_eq_true (by omega)
          have vt : IntKind.i64.wrap ((t : Int) + 1) = (t : Int) + 1 := IntWalk.i64_in _ (by omega)
          have i2 : decide ((q : Int) < nr) = true := decide_eq_true (by omega)
          obtain ⟨b0, off0, B, c, eA, hbl, d0, d1, d2, hI, hBD⟩ := (HTI.out.later hb).getb hlt2
          have HBD := Lib.hid hBD
          cases eA
          replace d0 := (hb2.cell (p := ⟨b0, off0 + t * 3, none⟩) hbl).trans d0
          replace d1 := (hb2.cell (p := ⟨b0, off0 + t * 3 + 1, none⟩) hbl).trans d1
          replace d2 := (hb2.cell (p := ⟨b0, off0 + t * 3 + 2, none⟩) hbl).trans d2
          replace hbl : b0 < wr.heap.size := Nat.lt_of_lt_of_le hbl zb2
          replace hI := hI.later hb2
          have HII := Lib.hid hI
          obtain ⟨bb, ob, eB, hbb, hc⟩ := hI.2 (by omega)
          cases eB
          have d3 := hc q hq 0 _ rfl
          rw [uL4_at hq, Nat.mul_one, Nat.add_zero] at d3
          have HYES := Lib.hid (fun h => tlK4_yes (f := fun t => t.2.2.at_ q == x) (ts := ts) (k := t) (by rw [HML.out]; exact hlt2) h)
          have HNO := Lib.hid (fun h => tlK4_no (f := fun t => t.2.2.at_ q == x) (ts := ts) (k := t) (by rw [HML.out]; exact hlt2) h)
          have hl0 := tlK4_le (f := fun t => t.2.2.at_ q == x) (ts := ts) (k := t)
          obtain ⟨T, hT⟩ : ∃ T, tlK4 (fun t => t.2.2.at_ q == x) ts t = T := ⟨_, rfl⟩
          rw [hT] at HO hl0 HYES HNO
          obtain ⟨tn, htn⟩ : ∃ n, T.length = n := ⟨_, rfl⟩
          rw [htn] at HO hl0
          have HTN := Lib.hid htn
          obtain ⟨s, hs⟩ : ∃ s, tuAt ts t = s := ⟨_, rfl⟩
          rw [hs] at d0 d1 d3 HYES HNO HII
          obtain ⟨tb, ta, tu⟩ := s
          simp only at d0 d1 d3 HII
          have y0 := X0.out wr hb2
          have hlb2 : lb < wr.heap.size := Nat.lt_of_lt_of_le hlb zb2
          obtain ⟨y, hy⟩ : ∃ y, tu.at_ q = y := ⟨_, rfl⟩
          rw [hy] at d3
          cases e1 : (y == x)
          · have HN := Lib.hid (HNO.out (by show (tu.at_ q == x) = false; rw [hy]; exact e1))
            clear HYES HNO hs hT htn hBD hI hc hy
            go_upto_region 9 with (fail)
            have hcq := fun p : Regrown => (bcell (below_regrown wr p.d p.os)).1
            refine wp_region_quiet_below (by kernel_rfl) (by kernel_rfl) ?_
            repeat (go_big_quiet_step ((fail)))
            refine wpQuiet_nil ?_
            intro wq hq
            obtain ⟨pq, hq⟩ := hq
            have hbq : Below wr.heap.size wr wq := by rw [hq]; exact below_regrown _ _ _
            clear hq hcq pq
            obtain ⟨hcq, hfq⟩ := bcell hbq
            have zq := hbq.size
            have BQ := Lib.hid (hb2.trans (hbq.mono zb2))
            have HO1 := Lib.hid (HO.out.later hbq)
            clear hcq hfq hbq d0 d1 d2 d3 y0
            go_wp2_with fail
            go_roundw
            case rel => exact ⟨t + 1, gs, by omega, by go_num, by rw [HN.out, HTN.out]; exact HO1, BQ.out⟩
            case measure => simp [intOf]; omega
          · have HN := Lib.hid (HYES.out (by show (tu.at_ q == x) = true; rw [hy]; exact e1))
            clear HYES HNO hs hT htn hBD hI hc hy
            go_upto_region 9 with (fail)
            have hcq := fun p : Regrown => (bcell (below_regrown wr p.d p.os)).1
            refine wp_region_quiet_below (by kernel_rfl) (by kernel_rfl) ?_
            repeat (go_big_quiet_step ((fail)))
            refine wpQuiet_nil ?_
            intro wq hq
            obtain ⟨pq, hq⟩ := hq
            have hbq : Below wr.heap.size wr wq := by rw [hq]; exact below_regrown _ _ _
            clear hq hcq pq
            obtain ⟨hcq, hfq⟩ := bcell hbq
            have zq := hbq.size
            have BQ := Lib.hid (hb2.trans (hbq.mono zb2))
            have HO1 := Lib.hid (HO.out.later hbq)
            have e0 := (hbq.cell (p := ⟨b0, off0 + t * 3, none⟩) hbl).trans d0
            have e1' := (hbq.cell (p := ⟨b0, off0 + t * 3 + 1, none⟩) hbl).trans d1
            have e2 := (hbq.cell (p := ⟨b0, off0 + t * 3 + 2, none⟩) hbl).trans d2
            have hbl2 : b0 < wq.heap.size := Nat.lt_of_lt_of_le hbl hbq.size
            have HIQ := Lib.hid (HII.out.later hbq)
            clear hcq hfq d0 d1 d2 d3 y0 HO
            go_wp2_with (at_builtin; go_must (refine wpList_append_T _ (d := (⟨0, 0, ⟨none, 0, 0⟩⟩ : Th4)) rfl (.tmp 37) (.tmp 42) _ rfl wo.heap.size _ 3 40 truE4 encTh4_len encTh4_one u9 u9.ownBlock tn gs rfl rfl ?ow _ 1 _ [⟨tb, ta, ⟨some ⟨bb, ob, none⟩, nr, c⟩⟩] rfl ?sl (by omega) ?sz ?_; (case ow => exact own_below HO1.out.own (by (repeat first | with_reducible assumption | with_reducible exact Below.refl _ _ | (with_reducible refine Below.alloc ?_ ?side _; case side => (first | omega | (with_reducible exact Below.size (by assumption)) | (simp; done) | (simp; omega))) | (with_reducible refine Below.setCell ?_ ?side _; case side => (first | omega | (with_reducible exact Below.size (by assumption)) | (simp; done) | (simp; omega))) | with_reducible refine Below.drew ?_ | with_reducible refine below_drewN ?_ _ | (with_reducible refine below_step (by assumption) ?side ?_; case side => (first | omega | (with_reducible exact Below.size (by assumption)) | (simp; done) | (simp; omega)))))); (case sl => exact sl_new encTh4_len (by first | rfl | simp) rfl rfl); (case sz => go_size); (rintro v8 w8 ho8 hg8 ha8); (have hb8 : Below wo.heap.size wq w8 := Below.grown (by (repeat first | with_reducible assumption | with_reducible exact Below.refl _ _ | (with_reducible refine Below.alloc ?_ ?side _; case side => (first | omega | (with_reducible exact Below.size (by assumption)) | (simp; done) | (simp; omega))) | (with_reducible refine Below.setCell ?_ ?side _; case side => (first | omega | (with_reducible exact Below.size (by assumption)) | (simp; done) | (simp; omega))) | with_reducible refine Below.drew ?_ | with_reducible refine below_drewN ?_ _ | (with_reducible refine below_step (by assumption) ?side ?_; case side => (first | omega | (with_reducible exact Below.size (by assumption)) | (simp; done) | (simp; omega))))) hg8 (by go_size) (own_ge HO1.out.own)); (have HO8 := Lib.hid (HO1.out.push (t := (tb, ta, tu)) ⟨rfl, rfl, rfl, HIQ.out⟩ (fun a ha => ⟨fun e => by have h1 := (HO1.out.own.lt _ e).1; have h2 := HBD.out a ha; omega, Nat.lt_of_lt_of_le (HBD.out a ha) (by have := BQ.out.size; omega)⟩) ho8 hg8 ha8)); (clear ho8 hg8 ha8)))
            go_roundw
            case rel => exact ⟨t + 1, gs ++ [⟨tb, ta, ⟨some ⟨bb, ob, none⟩, nr, c⟩⟩], by omega, by go_num, by rw [HN.out, List.length_append, HTN.out]; exact HO8, BQ.out.trans hb8⟩
            case measure => simp [intOf]; omega
        · obtain rfl : n = t := by omega
          have hqB2 : decide (((n : Nat) : Int) < n) = false := decide_eq_false (by omega)
          have hfl : tlK4 (fun t => t.2.2.at_ q == x) ts n = lfT4 ts q x := by rw [← HML.out]; exact tlK4_full
          rw [hfl] at HO
          have HSX := HST.out x
          have hsi := HSI.out x
          obtain ⟨T, hT⟩ : ∃ T, lfT4 ts q x = T := ⟨_, rfl⟩
          rw [hT] at HO HSX HWS hsi
          obtain ⟨m, hm⟩ : ∃ m, T.length = m := ⟨_, rfl⟩
          rw [hm] at HO HSX HWS hsi
          obtain ⟨A3, c3, e3, hss3⟩ := HO.out.ths
          subst e3
          have HC := Lib.hid (HSX A3 c3 gs wr hss3)
          obtain ⟨sl, hsl⟩ : ∃ s, (stK4 T m).lo = s := ⟨_, rfl⟩
          obtain ⟨sh, hsh⟩ : ∃ s, (stK4 T m).hi = s := ⟨_, rfl⟩
          rw [hsl, hsh] at HC HWS hsi
          have vs : IntKind.i64.wrap (sh - sl) = sh - sl := IntWalk.i64_in _ (by omega)
          clear hfl hss3 HO hsl hsh HSX hT hm
          go_upto_region 12 with (go_at_call 55; refine HC.out.mono ?_; (rintro e w5 ⟨rfl, hb5⟩); (have B5 := (hb2.trans (hb5.mono zb2))); clear hb5)
          go_name_world Z hZ
          have BZ : Below w5.heap.size w5 Z := (al1 hZ).1
          have qz := (al1_0 hZ).2.1
          have lz := (al1_0 hZ).1
          have B6 := Lib.hid (hb.trans ((B5.trans (BZ.mono B5.size)).mono zb))
          clear hZ BZ B5
          go_wp2_with fail
          go_roundw
          case rel => exact ⟨k + 1, by omega, by go_num, by rw [HWS.out], B6.out⟩
          case measure => simp [intOf]; omega
    · obtain rfl : bn = k := by omega
      have hqB : decide (((bn : Nat) : Int) < bn) = false := decide_eq_false (by omega)
      go_wp2_with fail
      go_ret
      exact ⟨rfl, hb⟩

end Go.Proofs.Ytmmgkmdfecnkdaa

namespace Go.Proofs.Ytmmgkmdfecnkdaa
open Go.RowKit
open Go.Sort (grow)
set_option linter.unusedVariables false
set_option linter.unusedSimpArgs false

set_option maxRecDepth 100000 in
set_option maxHeartbeats 3200000 in
theorem refNext4_c (Ar : Option Addr) (nr cr : Nat) (Ad : Option Addr) (nd cd : Nat) (p : P4) (w : World) (hnr : nr ≤ 40) (hnd : nd ≤ 40) (HM : MemP Ar nr Ad nd p w) (hg8 : ck4 p = true → p.ghi - p.glo ≤ 8) (h12 : ck4 p = true → (ws4 p).length ≤ 12) :
    Calls Try.prog 29 #[.agg #[.int .i64 p.ir, .int .i64 p.glo, .int .i64 p.ghi, .slice Ar nr cr, .slice Ad nd cd, .int .i64 p.wr]] w fun e w' => e = .returned (.tuple #[.int .i64 (nxv4 p), .int .i64 (nxe4 p)]) ∧ Below w.heap.size w w' := by
  have HKN := Lib.hid (fun V (hV : Below w.heap.size w V) => known4_c Ar nr cr Ad nd cd p true V hnr hnd (HM.later hV) hg8 h12)
  have hr := HM.hr.1
  have hd := HM.hd.1
  unfold Kn4 at HKN
  by_cases hz0 : op4 p true = 0
  case neg =>
    have h1 : nxv4 p = 0 := by unfold nxv4; rw [show (op4 p true == 0) = false by simpa using hz0]; rfl
    have h2 : nxe4 p = op4 p true := by unfold nxe4; rw [show (op4 p true == 0) = false by simpa using hz0]; rfl
    rw [h1, h2]
    obtain ⟨z, hz⟩ : ∃ z, op4 p true = z := ⟨_, rfl⟩
    rw [hz] at HKN hz0 ⊢
    have hzb : (z == 0) = false := by simpa using hz0
    have hzn : (z != 0) = true := by simpa using hz0
    obtain ⟨l, hll⟩ : ∃ l, knL4 p true = l := ⟨_, rfl⟩
    rw [hll] at HKN
    clear HM hr hd hz hll h1 h2 hz0 hg8 h12
    obtain ⟨ir, glo, ghi, wrg, rods, res⟩ := p
    simp only at HKN ⊢
    go_enter Try.func29, Try.ntmps29
    go_upto_region 1 with (fail)
    go_name_world X hX
    have BX : Below w.heap.size w X := (al1 hX).1
    have HPX : Hid (Blk X w.heap.size 27 #[Value.int .i64 ir, .int .i64 glo, .int .i64 ghi, .slice Ar nr cr, .slice Ad nd cd, .int .i64 wrg]) := by rw [← hX]; exact Lib.hid (Blk.new w _ _)
    have qX := HPX.out.cell
    have lX := HPX.out.lt
    clear hX
    go_wp2_with (go_at_call 45; refine (HKN.out X BX).mono ?_; (rintro e w1 ⟨A, c, hs, rfl, -, hb1⟩); (have B1 := BX.trans (hb1.mono BX.size)); clear hb1)
    exact bodyPost_ret (v := .tuple #[.int .i64 0, .int .i64 z]) (by simp [results, Try.results29, go_sem]) rfl ⟨rfl, B1⟩
  have hck := (op4_ol hz0).2.1
  have ok := ok4_of hck hr hd
  have hl := knL4_le (p := p) (is := true) (by omega) hg8 h12
  have hok : ∀ t ∈ knL4 p true, (0 ≤ t.1 ∧ t.1 ≤ 99999) ∧ (0 ≤ t.2.1 ∧ t.2.1 ≤ 99999) := fun t ht => by
    have := alt4_in ok (knL4_in hr hd ht).1
    exact ⟨this.1, this.2.1⟩
  have HRD : Hid (∀ (q : Nat) (hq : q < nr) (A : Option Addr) (c : Nat) (hs : List Th4) (V : World) (hV : Below w.heap.size w V) (HT : ThsAt nr V A (knL4 p true).length hs (knL4 p true)),
      Calls Try.prog 49 #[.agg #[.int .i64 p.ir, .int .i64 p.glo, .int .i64 p.ghi, .slice Ar nr cr, .slice Ad nd cd, .int .i64 p.wr], .slice A (knL4 p true).length c, .int .i64 q] V fun e w' => ∃ B d, e = .returned (.slice B (rl4 (tr4 p) q).length d) ∧ IntsAt w' B (rl4 (tr4 p) q).length (rl4 (tr4 p) q) ∧ Below V.heap.size V w') := Lib.hid (fun q hq A c hs V hV HT => by
    have := refrods4_c Ar nr cr Ad nd cd p A _ c hs (knL4 p true) q V ok (HM.later hV) HT (by omega) hq
    rw [show srt4 (rdK4 (knL4 p true) q (knL4 p true).length) (knL4 p true).length ((roAt p.rods q).lg - (roAt p.rods q).we) (roAt p.rods q).lg = rl4 (tr4 p) q from by rw [knL4_yes hz0, rods_eq ok hq]] at this
    exact this)
  have HWO : Hid (∀ (q : Nat) (hq : q < nr) (A : Option Addr) (c : Nat) (hs : List Th4) (B : Option Addr) (d : Nat) (V : World) (HT : ThsAt nr V A (knL4 p true).length hs (knL4 p true)) (HL : IntsAt V B (rl4 (tr4 p) q).length (rl4 (tr4 p) q)),
      Calls Try.prog 61 #[.slice A (knL4 p true).length c, .int .i64 q, .slice B (rl4 (tr4 p) q).length d] V fun e w' => e = .returned (.int .i64 (wsP4 (tr4 p) q (rl4 (tr4 p) q) (rl4 (tr4 p) q).length)) ∧ Below V.heap.size V w') := Lib.hid (fun q hq A c hs B d V HT HL => by
    have := refworst4_c nr A _ c hs (knL4 p true) q B _ d (rl4 (tr4 p) q) V HT HL (by omega) (by have := rl4_len ok hq; omega) hq hnr hok
    rw [show wsR4 (knL4 p true) q (rl4 (tr4 p) q) (rl4 (tr4 p) q).length = wsP4 (tr4 p) q (rl4 (tr4 p) q) (rl4 (tr4 p) q).length from by rw [knL4_yes hz0, worst_eq]] at this
    exact this)
  have HLL := Lib.hid (fun (q : Nat) (hq : q < nr) => rl4_len ok hq)
  have hnr4 := ok.nr4
  have hv : Hid (nxv4 p = if nxb4 p < 0 then 0 else nxb4 p) := Lib.hid (by unfold nxv4; rw [hz0]; rfl)
  have he : Hid (nxe4 p = if nxb4 p < 0 then 3 else 0) := Lib.hid (by unfold nxe4; rw [hz0]; rfl)
  have hB : Hid (nxb4 p = (nxK4 (fun q => rl4 (tr4 p) q) (fun q => wsP4 (tr4 p) q (rl4 (tr4 p) q) (rl4 (tr4 p) q).length) nr).1) := Lib.hid (by unfold nxb4; rw [hr])
  rw [hz0] at HKN
  obtain ⟨l, hll⟩ : ∃ l, knL4 p true = l := ⟨_, rfl⟩
  rw [hll] at HKN hl HRD HWO
  obtain ⟨m, hm⟩ : ∃ m, l.length = m := ⟨_, rfl⟩
  rw [hm] at HKN hl HRD HWO
  obtain ⟨M, hM⟩ : ∃ M : Nat → Int, (fun q => wsP4 (tr4 p) q (rl4 (tr4 p) q) (rl4 (tr4 p) q).length) = M := ⟨_, rfl⟩
  have hMe : ∀ q, wsP4 (tr4 p) q (rl4 (tr4 p) q) (rl4 (tr4 p) q).length = M q := fun q => congrFun hM q
  simp only [hMe] at HWO
  rw [hM] at hB
  obtain ⟨L, hL⟩ : ∃ L : Nat → List Int, (fun q => rl4 (tr4 p) q) = L := ⟨_, rfl⟩
  have hLe : ∀ q, rl4 (tr4 p) q = L q := fun q => congrFun hL q
  simp only [hLe] at HWO HRD HLL
  rw [hL] at hB
  obtain ⟨rv, hrv⟩ : ∃ v, nxv4 p = v := ⟨_, rfl⟩
  obtain ⟨re, hre⟩ : ∃ v, nxe4 p = v := ⟨_, rfl⟩
  obtain ⟨rb, hrb⟩ : ∃ v, nxb4 p = v := ⟨_, rfl⟩
  rw [hrv, hre]
  rw [hrv, hrb] at hv
  rw [hre, hrb] at he
  rw [hrb] at hB
  clear HM hr hd hck ok hok hz0 hll hm hM hMe hL hLe hrv hre hrb hg8 h12
  obtain ⟨ir, glo, ghi, wrg, rods, res⟩ := p
  simp only at HKN HRD ⊢
  go_enter Try.func29, Try.ntmps29
  go_upto_region 1 with (fail)
  go_name_world X hX
  have BX : Below w.heap.size w X := (al1 hX).1
  have HPX : Hid (Blk X w.heap.size 27 #[Value.int .i64 ir, .int .i64 glo, .int .i64 ghi, .slice Ar nr cr, .slice Ad nd cd, .int .i64 wrg]) := by rw [← hX]; exact Lib.hid (Blk.new w _ _)
  have qX := HPX.out.cell
  have lX := HPX.out.lt
  clear hX
  go_upto_region 2 with (go_at_call 45; refine (HKN.out X BX).mono ?_; (rintro e w1 ⟨A, c, hs, rfl, hT, hb1⟩); (have B1 := BX.trans (hb1.mono BX.size)); (have HP1 := Lib.hid (HPX.out.below hb1 HPX.out.lt)); (have HT := Lib.hid hT); clear hb1 hT qX lX)
  have l1 := HP1.out.lt
  go_wp2_with fail
  go_loopw [6, 7, 8] (fun b y i (wr : World) => ∃ k : Nat, k ≤ nr ∧ i = .int .i64 k ∧ b = .int .i64 (nxK4 L M k).1 ∧ y = .int .i64 (nxK4 L M k).2 ∧ Below w1.heap.size w1 wr) (fun _ _ i _ => nr - (intOf i).toNat)
  case atStart => exact ⟨0, by omega, by simp, rfl, rfl, Below.refl _ _⟩
  case round =>
    obtain ⟨k, hk, rfl, rfl, rfl, hb⟩ := hrel
    have zb := hb.size
    have HPR := Lib.hid (HP1.out.below hb l1)
    have qR := HPR.out.cell
    have lR := HPR.out.lt
    have hwr := B1.trans (hb.mono B1.size)
    by_cases hlt : k < nr
    · have hqB : decide ((k : Int) < nr) = true := decide_eq_true (by omega)
      have vk : IntKind.i64.wrap ((k : Int) + 1) = (k : Int) + 1 := IntWalk.i64_in _ (by omega)
      have HC := Lib.hid (HRD.out k hlt A c hs wr hwr (HT.out.later hb))
      have HD := Lib.hid (fun B d V => HWO.out k hlt A c hs B d V)
      have h10 := HLL.out k hlt
      have HSK := Lib.hid (fun h => nxK4_skip (L := L) (M := M) (k := k) h)
      have HTK := Lib.hid (fun h h2 => nxK4_take (L := L) (M := M) (k := k) h h2)
      have HKP := Lib.hid (fun h h2 => nxK4_keep (L := L) (M := M) (k := k) h h2)
      obtain ⟨⟨vb, vy⟩, hvb⟩ : ∃ s, nxK4 L M k = s := ⟨_, rfl⟩
      rw [hvb] at HSK HTK HKP ⊢
      obtain ⟨mk, hmk⟩ : ∃ x, M k = x := ⟨_, rfl⟩
      rw [hmk] at HTK HKP HD
      obtain ⟨lk, hlk⟩ : ∃ x, L k = x := ⟨_, rfl⟩
      rw [hlk] at HSK HTK HKP HC HD h10
      obtain ⟨n, hn⟩ : ∃ n, lk.length = n := ⟨_, rfl⟩
      rw [hn] at HSK HTK HKP HC HD h10
      simp only at HTK HKP ⊢
      clear hvb hmk hlk hn
      go_upto_region 9 with (go_at_call 49; refine HC.out.mono ?_; (rintro e w2 ⟨B, d, rfl, hI, hb2⟩); (have B2 := Lib.hid (hb.trans (hb2.mono zb))); (have HI := Lib.hid hI); clear hb2 hI qR lR)
      by_cases h2 : n < 2
      · have h2B : decide ((n : Int) < 2) = true := decide_eq_true (by omega)
        have HN := Lib.hid (HSK.out h2)
        clear HSK HTK HKP HD
        go_wp2_with fail
        go_roundw
        case rel => exact ⟨k + 1, by omega, by go_num, by rw [HN.out], by rw [HN.out], B2.out⟩
        case measure => simp [intOf]; omega
      · have h2B : decide ((n : Int) < 2) = false := decide_eq_false (by omega)
        have HW := Lib.hid (HD.out B d w2 (HT.out.later B2.out) HI.out)
        by_cases c1 : vb < 0
        · have c1B : decide (vb < 0) = true := decide_eq_true c1
          have HN := Lib.hid (HTK.out h2 (.inl c1))
          clear HSK HTK HKP HD c1
          go_wp2_with (go_at_call 61; refine HW.out.mono ?_; (rintro e w3 ⟨rfl, hb3⟩); (have B3 := B2.out.trans (hb3.mono B2.out.size)); clear hb3)
          go_roundw
          case rel => exact ⟨k + 1, by omega, by go_num, by rw [HN.out], by rw [HN.out], B3⟩
          case measure => simp [intOf]; omega
        · have c1B : decide (vb < 0) = false := decide_eq_false c1
          by_cases c2 : mk < vy
          · have c2B : decide (mk < vy) = true := decide_eq_true c2
            have HN := Lib.hid (HTK.out h2 (.inr c2))
            clear HSK HTK HKP HD c1 c2
            go_wp2_with (go_at_call 61; refine HW.out.mono ?_; (rintro e w3 ⟨rfl, hb3⟩); (have B3 := B2.out.trans (hb3.mono B2.out.size)); clear hb3)
            go_roundw
            case rel => exact ⟨k + 1, by omega, by go_num, by rw [HN.out], by rw [HN.out], B3⟩
            case measure => simp [intOf]; omega
          · have c2B : decide (mk < vy) = false := decide_eq_false c2
            have HN := Lib.hid (HKP.out h2 (by rintro (h | h) <;> omega))
            clear HSK HTK HKP HD c1 c2
            go_wp2_with (go_at_call 61; refine HW.out.mono ?_; (rintro e w3 ⟨rfl, hb3⟩); (have B3 := B2.out.trans (hb3.mono B2.out.size)); clear hb3)
            go_roundw
            case rel => exact ⟨k + 1, by omega, by go_num, by rw [HN.out], by rw [HN.out], B3⟩
            case measure => simp [intOf]; omega
    · obtain rfl : nr = k := by omega
      have hqB : decide (((nr : Nat) : Int) < nr) = false := decide_eq_false (by omega)
      have hB := hB.out
      have hv := hv.out
      have he := he.out
      rw [← hB]
      clear hB HRD HWO HLL
      by_cases c1 : rb < 0
      · have c1B : decide (rb < 0) = true := decide_eq_true c1
        rw [if_pos c1] at hv he
        subst hv he
        go_wp2_with fail
        exact bodyPost_ret (v := .tuple #[.int .i64 0, .int .i64 3]) (by simp [results, Try.results29, go_sem]) rfl ⟨rfl, hwr⟩
      · have c1B : decide (rb < 0) = false := decide_eq_false c1
        rw [if_neg c1] at hv he
        subst hv he
        go_wp2_with fail
        exact bodyPost_ret (v := .tuple #[.int .i64 rv, .int .i64 0]) (by simp [results, Try.results29, go_sem]) rfl ⟨rfl, hwr⟩

end Go.Proofs.Ytmmgkmdfecnkdaa
