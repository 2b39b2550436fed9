/- alike of the statements (layer 4): two pulls that are answered the same. -/
import Derived.Test.YtjlibgledkdfiaaIn4
import Derived.Shelf.Abstract
import Derived.Laws.EntriesVeiled
import Derived.Handy
import Derived.Deep.DrawnRows
import Derived.Deep.DeepCutAuto
namespace Go.Proofs.Ytjlibgledkdfiaa
open Go.RowKit
open Go.Sort (grow)
set_option linter.unusedVariables false

/-- two pulls with the same lengths, and the same readings right with them -/
structure Same4 (a b : P4) : Prop where
  ws : ws4 a = ws4 b
  ln : ln4 a = ln4 b
  wr : a.wr = b.wr
  rl : a.res.length = b.res.length
  w : ∀ wh u l, wr4 a wh u l = wr4 b wh u l
section
variable {a b : P4}
theorem Same4.gr (h : Same4 a b) (wh : Int) (u : W4) : gr4 a wh u = gr4 b wh u := by
  unfold gr4
  rw [h.rl, h.ln]
  simp only [h.w]
theorem Same4.bs (h : Same4 a b) : bs4 a = bs4 b := by
  unfold bs4
  rw [h.ws]
  simp only [h.gr]
theorem Same4.tr (h : Same4 a b) : tr4 a = tr4 b := by
  unfold tr4
  rw [h.bs, h.wr]
theorem Same4.lg (h : Same4 a b) (wh : Int) : lg4 a (tr4 a) wh = lg4 b (tr4 b) wh := by
  unfold lg4
  rw [h.ln, h.tr]
theorem Same4.op (h : Same4 a b) (ha : ck4 a = true) (hb : ck4 b = true) : op4 a true = op4 b true := by
  unfold op4
  rw [ha, hb, h.tr]
theorem Same4.few (h : Same4 a b) (ha : ck4 a = true) (hb : ck4 b = true) : few4 a = few4 b := by
  unfold few4
  rw [ha, hb, h.bs, h.rl]
theorem Same4.lgs (h : Same4 a b) (ha : ck4 a = true) (hb : ck4 b = true) {wh : Int} (hw : when4 wh = true) : lgs4 a wh = lgs4 b wh := by
  unfold lgs4
  rw [hw, h.op ha hb, h.lg]
theorem Same4.bev (h : Same4 a b) (ha : ck4 a = true) (hb : ck4 b = true) : bev4 a = bev4 b := by
  unfold bev4
  rw [h.op ha hb, h.tr]
theorem Same4.bee (h : Same4 a b) (ha : ck4 a = true) (hb : ck4 b = true) : bee4 a = bee4 b := by
  unfold bee4
  rw [h.op ha hb, h.tr]
theorem lgs4_le {p : P4} {wh : Int} (h : p.ghi - p.glo ≤ 8) : (lgs4 p wh).length ≤ 9 := by
  unfold lgs4
  cases op4 p (when4 wh) == 0
  · exact Nat.zero_le _
  · exact lg4_len h
theorem same_self {n : Nat} {xs : List Int} : (n == n && allN n fun k => iAt xs k == iAt xs k) = true := by
  rw [beq_self_eq_true, Bool.true_and, allN_iff]
  intro k _
  simp
end
set_option maxRecDepth 100000 in
set_option maxHeartbeats 6400000 in
theorem alike4_c (Ar : Option Addr) (nr cr : Nat) (Ad : Option Addr) (nd cd : Nat) (a : P4) (Br : Option Addr) (mr dr : Nat) (Bd : Option Addr) (md dd : Nat) (b : P4) (w : World) (HA : MemP Ar nr Ad nd a w) (HB : MemP Br mr Bd md b w) (hra : ready4 a = true) (hrb : ready4 b = true) (hs : Same4 a b) :
    Calls Try.prog 19 #[.agg #[.int .i64 a.ir, .int .i64 a.glo, .int .i64 a.ghi, .slice Ar nr cr, .slice Ad nd cd, .int .i64 a.wr], .agg #[.int .i64 b.ir, .int .i64 b.glo, .int .i64 b.ghi, .slice Br mr dr, .slice Bd md dd, .int .i64 b.wr]] w fun e w' => e = .returned (.bool true) ∧ Below w.heap.size w w' := by
  have rda := ready4_iff hra
  have rdb := ready4_iff hrb
  have hr := HA.hr.1
  have hd := HA.hd.1
  have hr' := HB.hr.1
  have hd' := HB.hd.1
  have oka : Ok4 nr nd a := ok4_of rda.ck hr hd
  have okb : Ok4 mr md b := ok4_of rdb.ck hr' hd'
  have hnr : nr ≤ 40 := by have := oka.nr4; omega
  have hnd : nd ≤ 40 := by have := oka.nd8; omega
  have hmr : mr ≤ 40 := by have := okb.nr4; omega
  have hmd : md ≤ 40 := by have := okb.nd8; omega
  have HNA := fun V (hV : Below w.heap.size w V) => many4_c Ar nr cr Ad nd cd a V hnr hnd (HA.later hV) rda.len
  have HNB := fun V (hV : Below w.heap.size w V) => many4_c Br mr dr Bd md dd b V hmr hmd (HB.later hV) rdb.len
  have HFA := fun V (hV : Below w.heap.size w V) => fewest4_c Ar nr cr Ad nd cd a V hnr hnd (HA.later hV)
  have HFB := fun V (hV : Below w.heap.size w V) => fewest4_c Br mr dr Bd md dd b V hmr hmd (HB.later hV)
  have HTA := fun V (hV : Below w.heap.size w V) => stretch4_c Ar nr cr Ad nd cd a V hnr hnd (HA.later hV) rda.len
  have HTB := fun V (hV : Below w.heap.size w V) => stretch4_c Br mr dr Bd md dd b V hmr hmd (HB.later hV) rdb.len
  have HEA := fun V (hV : Below w.heap.size w V) => best4_c Ar nr cr Ad nd cd a V hnr hnd (HA.later hV) rda.len
  have HEB := fun V (hV : Below w.heap.size w V) => best4_c Br mr dr Bd md dd b V hmr hmd (HB.later hV) rdb.len
  have HLA := Lib.hid (fun (k : Nat) (hk : k = 1 ∨ k = 2) V (hV : Below w.heap.size w V) => by
    have := lengths4_c Ar nr cr Ad nd cd a (k : Int) V hnr hnd (HA.later hV) rda.len
    have hw : when4 (k : Int) = true := by rcases hk with rfl | rfl <;> rfl
    rw [hw, hs.lgs rda.ck rdb.ck hw, hs.op rda.ck rdb.ck] at this
    exact this)
  have HLB := Lib.hid (fun (k : Nat) (hk : k = 1 ∨ k = 2) V (hV : Below w.heap.size w V) => by
    have := lengths4_c Br mr dr Bd md dd b (k : Int) V hmr hmd (HB.later hV) rdb.len
    have hw : when4 (k : Int) = true := by rcases hk with rfl | rfl <;> rfl
    rw [hw] at this
    exact this)
  have HLL := Lib.hid (fun (wh : Int) => lgs4_le (p := b) (wh := wh) rdb.g8)
  rw [ol4_ck rda.ck, hs.tr, hs.op rda.ck rdb.ck] at HNA
  rw [ol4_ck rdb.ck] at HNB
  rw [rda.ck, hs.few rda.ck rdb.ck, show er4 true = 0 from rfl] at HFA
  rw [rdb.ck, show er4 true = 0 from rfl] at HFB
  rw [show st4 a = st4 b by unfold st4; rw [ol4_ck rda.ck, ol4_ck rdb.ck, hs.tr], hs.op rda.ck rdb.ck] at HTA
  rw [hs.bev rda.ck rdb.ck, hs.bee rda.ck rdb.ck] at HEA
  obtain ⟨m, hm⟩ : ∃ x, mn4 (tr4 b) (tr4 b).length = x := ⟨_, rfl⟩
  obtain ⟨z, hz⟩ : ∃ x, op4 b true = x := ⟨_, rfl⟩
  obtain ⟨f, hf⟩ : ∃ x, few4 b = x := ⟨_, rfl⟩
  obtain ⟨lo, hlo⟩ : ∃ x, (st4 b).lo = x := ⟨_, rfl⟩
  obtain ⟨hi, hhi⟩ : ∃ x, (st4 b).hi = x := ⟨_, rfl⟩
  obtain ⟨be, hbe⟩ : ∃ x, bev4 b = x := ⟨_, rfl⟩
  obtain ⟨ze, hze⟩ : ∃ x, bee4 b = x := ⟨_, rfl⟩
  obtain ⟨LB, hLB⟩ : ∃ f : Int → List Int, (fun wh => lgs4 b wh) = f := ⟨_, rfl⟩
  have e2 : ∀ wh, lgs4 b wh = LB wh := fun wh => congrFun hLB wh
  simp only [e2, hz] at HLA HLB
  simp only [e2] at HLL
  rw [hm, hz] at HNA HNB
  rw [hf] at HFA HFB
  rw [hlo, hhi, hz] at HTA HTB
  rw [hbe, hze] at HEA HEB
  replace HNA := Lib.hid HNA
  replace HNB := Lib.hid HNB
  replace HFA := Lib.hid HFA
  replace HFB := Lib.hid HFB
  replace HTA := Lib.hid HTA
  replace HTB := Lib.hid HTB
  replace HEA := Lib.hid HEA
  replace HEB := Lib.hid HEB
  clear hra hrb HA HB hs rda rdb hr hd hr' hd' oka okb hm hz hf hlo hhi hbe hze hLB e2
  obtain ⟨ir, glo, ghi, wrg, rods, res⟩ := a
  obtain ⟨ir', glo', ghi', wrg', rods', res'⟩ := b
  simp only at HNA HNB HFA HFB HTA HTB HEA HEB HLA HLB ⊢
  go_enter Try.func19, Try.ntmps19
  go_upto_region 1 with (fail)
  go_name_world X hX
  have BX : Below w.heap.size w X := (al2 hX).1
  have HPX : Hid (Blk X w.heap.size 27 #[.int .i64 ir, .int .i64 glo, .int .i64 ghi, .slice Ar nr cr, .slice Ad nd cd, .int .i64 wrg]) := by rw [← hX]; exact Lib.hid ((Blk.new w _ _).alloc _)
  have HQX : Hid (Blk X (w.heap.size + 1) 27 #[.int .i64 ir', .int .i64 glo', .int .i64 ghi', .slice Br mr dr, .slice Bd md dd, .int .i64 wrg']) := by
    rw [← hX]
    have := Blk.new (w.alloc (.cells #[.int .i64 ir, .int .i64 glo, .int .i64 ghi, .slice Ar nr cr, .slice Ad nd cd, .int .i64 wrg] 27)) 27 #[.int .i64 ir', .int .i64 glo', .int .i64 ghi', .slice Br mr dr, .slice Bd md dd, .int .i64 wrg']
    rw [World.size_alloc] at this
    exact Lib.hid this
  have qX := HPX.out.cell
  have lX := HPX.out.lt
  have pX := HQX.out.cell
  have gX := HQX.out.lt
  clear hX
  go_upto_region 2 with (go_at_call 22; refine (HNA.out X BX).mono ?_; (rintro e w1 ⟨rfl, hb⟩); (have Bw1 := BX.trans (hb.mono BX.size)); (have HPw1 := Lib.hid (HPX.out.below hb HPX.out.lt)); (have HQw1 := Lib.hid (HQX.out.below hb HQX.out.lt)); (have qw1 := HPw1.out.cell); (have lw1 := HPw1.out.lt); (have pw1 := HQw1.out.cell); (have gw1 := HQw1.out.lt); skip; clear hb qX lX pX gX)
  go_upto_region 3 with (go_at_call 22; refine (HNB.out w1 Bw1).mono ?_; (rintro e w2 ⟨rfl, hb⟩); (have Bw2 := Bw1.trans (hb.mono Bw1.size)); (have HPw2 := Lib.hid (HPw1.out.below hb HPw1.out.lt)); (have HQw2 := Lib.hid (HQw1.out.below hb HQw1.out.lt)); (have qw2 := HPw2.out.cell); (have lw2 := HPw2.out.lt); (have pw2 := HQw2.out.cell); (have gw2 := HQw2.out.lt); skip; clear hb qw1 lw1 pw1 gw1)
  go_upto_region 4 with (go_at_call 23; refine (HFA.out w2 Bw2).mono ?_; (rintro e w3 ⟨rfl, hb⟩); (have Bw3 := Bw2.trans (hb.mono Bw2.size)); (have HPw3 := Lib.hid (HPw2.out.below hb HPw2.out.lt)); (have HQw3 := Lib.hid (HQw2.out.below hb HQw2.out.lt)); (have qw3 := HPw3.out.cell); (have lw3 := HPw3.out.lt); (have pw3 := HQw3.out.cell); (have gw3 := HQw3.out.lt); skip; clear hb qw2 lw2 pw2 gw2)
  go_upto_region 5 with (go_at_call 23; refine (HFB.out w3 Bw3).mono ?_; (rintro e w4 ⟨rfl, hb⟩); (have Bw4 := Bw3.trans (hb.mono Bw3.size)); (have HPw4 := Lib.hid (HPw3.out.below hb HPw3.out.lt)); (have HQw4 := Lib.hid (HQw3.out.below hb HQw3.out.lt)); (have qw4 := HPw4.out.cell); (have lw4 := HPw4.out.lt); (have pw4 := HQw4.out.cell); (have gw4 := HQw4.out.lt); skip; clear hb qw3 lw3 pw3 gw3)
  go_wp2_with fail
  go_loopw [13] (fun i (wr : World) => ∃ k : Nat, 1 ≤ k ∧ k ≤ 3 ∧ i = .int .i64 k ∧ Below w4.heap.size w4 wr) (fun i _ => 3 - (intOf i).toNat)
  case atStart => exact ⟨1, by omega, by omega, by simp, Below.refl _ _⟩
  case round =>
    obtain ⟨k, hk1, hk3, rfl, hb⟩ := hrel
    obtain ⟨wo, rfl⟩ : ∃ wo : World, wo = wr := ⟨_, rfl⟩
    have zb := hb.size
    have qo := fun j => (hb.cell (p := ⟨w.heap.size, j, none⟩) lw4).trans (qw4 j)
    have po := fun j => (hb.cell (p := ⟨w.heap.size + 1, j, none⟩) gw4).trans (pw4 j)
    have lo0 : w.heap.size < wo.heap.size := by omega
    have go0 : w.heap.size + 1 < wo.heap.size := by omega
    have hwo := Lib.hid (Bw4.trans (hb.mono Bw4.size))
    by_cases hlt : k ≤ 2
    · have hqB : decide ((k : Int) ≤ 2) = true := decide_eq_true (by omega)
      have vk : IntKind.i64.wrap ((k : Int) + 1) = (k : Int) + 1 := IntWalk.i64_in _ (by omega)
      have hk : k = 1 ∨ k = 2 := by omega
      have HCA := HLA.out k hk
      have HCB := HLB.out k hk
      have n2 := HLL.out (k : Int)
      obtain ⟨L2, hL2⟩ : ∃ L, LB (k : Int) = L := ⟨_, rfl⟩
      rw [hL2] at HCA HCB n2
      obtain ⟨k2, hk2⟩ : ∃ n, L2.length = n := ⟨_, rfl⟩
      rw [hk2] at HCA HCB n2
      have HSU := fun A c B d V (H1 : IntsAt V A k2 L2) (H2 : IntsAt V B k2 L2) => same4_c A B k2 k2 c d L2 L2 V (by omega) (by omega) H1 H2
      rw [same_self] at HSU
      replace HCA := Lib.hid HCA
      replace HCB := Lib.hid HCB
      replace HSU := Lib.hid HSU
      clear hL2 n2 hk hk2
      go_upto_region 11 with (go_at_call 24; refine (HCA.out wo hwo.out).mono ?_; (rintro e w5 ⟨A5, c5, rfl, hI, hb5⟩); (have HI5 := Lib.hid hI); (have B5 := Lib.hid (hwo.out.trans (hb5.mono hwo.out.size))); (have D5 := Lib.hid (hb.trans (hb5.mono zb))); (have p5 := fun j => (hb5.cell (p := ⟨w.heap.size + 1, j, none⟩) go0).trans (po j)); (have g5 := Nat.lt_of_lt_of_le go0 hb5.size); clear hb5 hI qo po)
      go_wp2_with (first | (go_at_call 24; refine (HCB.out w5 B5.out).mono ?_; (rintro e w6 ⟨A6, c6, rfl, hI, hb6⟩); (have HI6 := Lib.hid hI); (have HI56 := Lib.hid (HI5.out.later hb6)); (have D6 := Lib.hid (D5.out.trans (hb6.mono D5.out.size))); clear hb6 hI p5) | (go_at_call 26; refine (HSU.out _ _ _ _ w6 HI56.out HI6.out).mono ?_; (rintro e w7 ⟨rfl, hb7⟩); (have D7 := Lib.hid (D6.out.trans (hb7.mono D6.out.size))); clear hb7))
      go_roundw
      case rel => exact ⟨k + 1, by omega, by omega, by go_num, D7.out⟩
      case measure => simp [intOf]; omega
    · have hqB : decide ((k : Int) ≤ 2) = false := decide_eq_false (by omega)
      clear hk1 hk3
      have Bwo := hwo.out
      have HPwo := Lib.hid (HPw4.out.below hb HPw4.out.lt)
      have HQwo := Lib.hid (HQw4.out.below hb HQw4.out.lt)
      clear qo po
      have qwo := HPwo.out.cell
      have lwo := HPwo.out.lt
      have pwo := HQwo.out.cell
      have gwo := HQwo.out.lt
      go_upto_region 14 with (fail)
      go_upto_region 15 with (go_at_call 14; refine (HTA.out wo Bwo).mono ?_; (rintro e w5 ⟨rfl, hb5⟩); (have B5 := Bwo.trans (hb5.mono Bwo.size)); (have HP5 := Lib.hid (HPwo.out.below hb5 HPwo.out.lt)); (have HQ5 := Lib.hid (HQwo.out.below hb5 HQwo.out.lt)); clear hb5 qwo lwo pwo gwo)
      go_name_world Y hY
      have bY := (al1 hY).1
      have BY := B5.trans (bY.mono B5.size)
      have HSY : Hid (Blk Y w5.heap.size 23 #[.int .i64 lo, .int .i64 hi]) := by rw [← hY]; exact Lib.hid (Blk.new _ _ _)
      have HPY := Lib.hid (HP5.out.below bY HP5.out.lt)
      have HQY := Lib.hid (HQ5.out.below bY HQ5.out.lt)
      have qY := HPY.out.cell
      have lY := HPY.out.lt
      have pY := HQY.out.cell
      have gY := HQY.out.lt
      clear hY bY
      go_upto_region 16 with (go_at_call 14; refine (HTB.out Y BY).mono ?_; (rintro e w6 ⟨rfl, hb6⟩); (have B6 := BY.trans (hb6.mono BY.size)); (have HS6 := Lib.hid (HSY.out.below hb6 HSY.out.lt)); (have HP6 := Lib.hid (HPY.out.below hb6 HPY.out.lt)); (have HQ6 := Lib.hid (HQY.out.below hb6 HQY.out.lt)); clear hb6 qY lY pY gY)
      go_name_world Z hZ
      have bZ := (al1 hZ).1
      have BZ := B6.trans (bZ.mono B6.size)
      have HSZ := Lib.hid (HS6.out.below bZ HS6.out.lt)
      have HPZ := Lib.hid (HP6.out.below bZ HP6.out.lt)
      have HQZ := Lib.hid (HQ6.out.below bZ HQ6.out.lt)
      have HUZ : Hid (Blk Z w6.heap.size 23 #[.int .i64 lo, .int .i64 hi]) := by rw [← hZ]; exact Lib.hid (Blk.new _ _ _)
      clear hZ bZ
      have qZ := HPZ.out.cell
      have lZ := HPZ.out.lt
      have pZ := HQZ.out.cell
      have gZ := HQZ.out.lt
      go_upto_region 17 with (go_at_call 17; refine (HEA.out Z BZ).mono ?_; (rintro e w7 ⟨rfl, hb⟩); (have Bw7 := BZ.trans (hb.mono BZ.size)); (have HPw7 := Lib.hid (HPZ.out.below hb HPZ.out.lt)); (have HQw7 := Lib.hid (HQZ.out.below hb HQZ.out.lt)); (have qw7 := HPw7.out.cell); (have lw7 := HPw7.out.lt); (have pw7 := HQw7.out.cell); (have gw7 := HQw7.out.lt); (have HS7 := Lib.hid (HSZ.out.below hb HSZ.out.lt)); (have HU7 := Lib.hid (HUZ.out.below hb HUZ.out.lt)); clear hb qZ lZ pZ gZ)
      go_upto_region 18 with (go_at_call 17; refine (HEB.out w7 Bw7).mono ?_; (rintro e w8 ⟨rfl, hb⟩); (have Bw8 := Bw7.trans (hb.mono Bw7.size)); (have HPw8 := Lib.hid (HPw7.out.below hb HPw7.out.lt)); (have HQw8 := Lib.hid (HQw7.out.below hb HQw7.out.lt)); (have qw8 := HPw8.out.cell); (have lw8 := HPw8.out.lt); (have pw8 := HQw8.out.cell); (have gw8 := HQw8.out.lt); (have HS8 := Lib.hid (HS7.out.below hb HS7.out.lt)); (have HU8 := Lib.hid (HU7.out.below hb HU7.out.lt)); clear hb qw7 lw7 pw7 gw7)
      have s8 := HS8.out.cell
      have u8' := HS8.out.lt
      have t8 := HU8.out.cell
      have v8 := HU8.out.lt
      clear qw8 lw8 pw8 gw8
      go_wp2_with fail
      go_ret
      exact ⟨ret_bool (by first | rfl | simp), Bw8⟩
section
variable {α : Type}
/-- the first k turned -/
def mtK (f : α → α) (l : List α) (k : Nat) : List α := (l.take k).map f ++ l.drop k
theorem mtK_zero (f : α → α) (l : List α) : mtK f l 0 = l := by simp [mtK]
theorem mtK_full (f : α → α) (l : List α) : mtK f l l.length = l.map f := by simp [mtK]
theorem mtK_len (f : α → α) (l : List α) (k : Nat) : (mtK f l k).length = l.length := by
  simp only [mtK, List.length_append, List.length_map, List.length_take, List.length_drop]
  omega
theorem mtK_at (f : α → α) (l : List α) {k : Nat} (d : α) : (mtK f l k).getD k d = l.getD k d := by
  unfold mtK
  rw [List.getD_eq_getElem?_getD, List.getD_eq_getElem?_getD]
  by_cases h : k ≤ l.length
  · rw [List.getElem?_append_right (by simp; omega)]
    simp only [List.length_map, List.length_take, Nat.min_eq_left h, Nat.sub_self]
    rw [List.getElem?_drop, Nat.add_zero]
  · rw [List.getElem?_eq_none (by simp; omega), List.getElem?_eq_none (by omega)]
theorem mtK_set (f : α → α) (l : List α) {k : Nat} (h : k < l.length) (d : α) : (mtK f l k).set k (f (l.getD k d)) = mtK f l (k + 1) := by
  unfold mtK
  rw [List.set_append_right _ _ (by simp; omega)]
  simp only [List.length_map, List.length_take, Nat.min_eq_left (Nat.le_of_lt h), Nat.sub_self]
  rw [List.drop_eq_getElem_cons h, List.set_cons_zero, List.take_add_one, List.getElem?_eq_getElem h, List.map_append, List.append_assoc, List.getD_eq_getElem?_getD, List.getElem?_eq_getElem h]
  rfl
end

end Go.Proofs.Ytjlibgledkdfiaa
