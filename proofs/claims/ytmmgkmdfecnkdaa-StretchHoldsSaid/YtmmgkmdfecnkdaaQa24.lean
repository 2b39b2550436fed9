/- holds of stretch (layer 4): what is known of the stretch and a part of the length. -/
import Derived.Test.YtmmgkmdfecnkdaaQa23
import Derived.Deep.DrawnRows
import Derived.Deep.DeepCutAuto
namespace Go.Proofs.Ytmmgkmdfecnkdaa
open Go.RowKit
open Go.Sort (grow)
set_option linter.unusedVariables false
set_option linter.unusedSimpArgs false

/-- the stretch is at most a part of the length before -/
def is4 (pt b a : Int) : Bool := decide (1000 * (a - b) ≤ pt * b)
/-- of some truth of a bundle; of all of them -/
def so4 (pt : Int) (x : Bu4) : Bool := is4 pt (la4 x.b.2) (fr4 x.a.2)
def su4 (pt : Int) (x : Bu4) : Bool := is4 pt (fr4 x.b.2) (la4 x.a.2)
def soB (l : List Bu4) (pt : Int) (k : Nat) : Bool := (l.take k).any (so4 pt)
def noB (l : List Bu4) (pt : Int) (k : Nat) : Bool := (l.take k).any fun x => !su4 pt x
def hd4 (l : List Bu4) (pt : Int) : Int := bif noB l pt l.length then (bif soB l pt l.length then 3 else 2) else 1
theorem soB_succ (pt : Int) {l : List Bu4} {k : Nat} {x : Bu4} (h : l[k]? = some x) : soB l pt (k + 1) = (soB l pt k || so4 pt x) := by
  unfold soB
  rw [List.take_add_one, h, List.any_append]
  simp
theorem noB_succ (pt : Int) {l : List Bu4} {k : Nat} {x : Bu4} (h : l[k]? = some x) : noB l pt (k + 1) = (noB l pt k || !su4 pt x) := by
  unfold noB
  rw [List.take_add_one, h, List.any_append]
  simp
theorem is4_c (g : Nat) (pt b a : Int) (w : World) (hp : 0 ≤ pt ∧ pt ≤ 1000) (hb : 1 ≤ b ∧ b ≤ 99999) (ha : 1 ≤ a ∧ a ≤ 99999) (hg : g < w.heap.size) (hc : w.cell? ⟨g, 0, none⟩ = some (.int .i64 pt)) :
    Calls Try.prog 76 #[.int .i64 b, .int .i64 a, .pointer (some ⟨g, 0, none⟩)] w fun e w' => e = .returned (.bool (is4 pt b a)) ∧ Below w.heap.size w w' := by
  have hm := Int.mul_le_mul hp.2 hb.2 (show (0 : Int) ≤ b by omega) (show (0 : Int) ≤ 1000 by omega)
  have hm0 := Int.mul_nonneg hp.1 (show (0 : Int) ≤ b by omega)
  have v1 : IntKind.i64.wrap (a - b) = a - b := IntWalk.i64_in _ (by omega)
  have v2 : IntKind.i64.wrap (1000 * (a - b)) = 1000 * (a - b) := IntWalk.i64_in _ (by omega)
  have v3 : IntKind.i64.wrap (pt * b) = pt * b := IntWalk.i64_in _ (by omega)
  unfold is4
  obtain ⟨r, hr⟩ : ∃ r, decide (1000 * (a - b) ≤ pt * b) = r := ⟨_, rfl⟩
  rw [hr]
  clear hm hm0
  go_enter Try.func76, Try.ntmps76
  go_wp2
  go_ret
  exact ⟨rfl, by (repeat first | with_reducible assumption | with_reducible exact Below.refl _ _ | (with_reducible refine Below.alloc ?_ ?side _; case side => (first | omega | (with_reducible exact Below.size (by assumption)) | (simp; done) | (simp; omega))) | (with_reducible refine Below.setCell ?_ ?side _; case side => (first | omega | (with_reducible exact Below.size (by assumption)) | (simp; done) | (simp; omega))) | with_reducible refine Below.drew ?_ | with_reducible refine below_drewN ?_ _ | (with_reducible refine below_step (by assumption) ?side ?_; case side => (first | omega | (with_reducible exact Below.size (by assumption)) | (simp; done) | (simp; omega))))⟩
set_option maxRecDepth 100000 in
set_option maxHeartbeats 3200000 in
theorem holds4_c (A : Option Addr) (n c : Nat) (B0 base : Nat) (hs : List Hb) (l : List Bu4) (pt : Int) (w : World) (hn : n ≤ 90000) (hp : 0 ≤ pt ∧ pt ≤ 1000) (HB : BsAt4 B0 base w A n hs l) (hok : ∀ x ∈ l, OkB x) :
    Calls Try.prog 56 #[.slice A n c, .int .i64 pt] w fun e w' => e = .returned (.int .i64 (hd4 l pt)) ∧ Below w.heap.size w w' := by
  have HBI := Lib.hid HB
  have HXL := Lib.hid HB.xl
  have HOK := Lib.hid hok
  have HD : Hid (hd4 l pt = bif noB l pt n then (bif soB l pt n then 3 else 2) else 1) := by
    unfold hd4
    rw [HB.xl]
    exact Lib.hid rfl
  clear HB hok
  obtain ⟨z, hz⟩ : ∃ z, hd4 l pt = z := ⟨_, rfl⟩
  rw [hz] at HD ⊢
  clear hz
  have HIS := Lib.hid (fun b a hb ha V hg hc => is4_c w.heap.size pt b a V hp hb ha hg hc)
  clear hp
  go_enter Try.func56, Try.ntmps56
  go_upto_region 2 with (fail)
  go_name_world X hX
  have BX : Below w.heap.size w X := (al1 hX).1
  have q0 := (al1_0 hX).2.1
  have l0X := (al1_0 hX).1
  clear hX
  go_wp2_with fail
  go_loopw [5, 6, 14] (fun a b i (wr : World) => ∃ k : Nat, k ≤ n ∧ a = .bool (soB l pt k) ∧ b = .bool (noB l pt k) ∧ i = .int .i64 k ∧ Below X.heap.size X wr) (fun _ _ i _ => n - (intOf i).toNat)
  case atStart => exact ⟨0, by omega, rfl, rfl, by simp, Below.refl _ _⟩
  case round =>
    obtain ⟨k, hk, rfl, rfl, rfl, hbr⟩ := hrel
    have hw := Lib.hid (BX.trans (hbr.mono BX.size))
    have zr := hbr.size
    have q0r := fun j => (hbr.cell (p := ⟨w.heap.size, j, none⟩) l0X).trans (q0 j)
    have l0r := Nat.lt_of_lt_of_le l0X zr
    have HBR := Lib.hid hbr
    clear hbr
    obtain ⟨so, hso⟩ : ∃ s, soB l pt k = s := ⟨_, rfl⟩
    obtain ⟨no, hno⟩ : ∃ s, noB l pt k = s := ⟨_, rfl⟩
    by_cases hkn : k < n
    · have hkB : decide ((k : Int) < n) = true := by simp; omega
      have vk : IntKind.i64.wrap ((k : Int) + 1) = (k : Int) + 1 := IntWalk.i64_in _ (by omega)
      obtain ⟨b, off, hA, hb, hc, hR⟩ := (HBI.out.later hw.out).get hkn
      subst hA
      obtain ⟨x, hx⟩ : ∃ x, bxAt l k = x := ⟨_, rfl⟩
      have hxg : l[k]? = some x := by rw [← hx]; unfold bxAt; rw [List.getD_eq_getElem?_getD, List.getElem?_eq_getElem (by have := HXL.out; omega)]; rfl
      have hxo := HOK.out x (List.mem_of_getElem? hxg)
      have HSU := Lib.hid (soB_succ pt hxg)
      have HNU := Lib.hid (noB_succ pt hxg)
      rw [hx] at hR
      obtain ⟨h, hh⟩ : ∃ h, hbAt hs k = h := ⟨_, rfl⟩
      rw [hh] at hR hc
      obtain ⟨-, -, -, rb, ra⟩ := hR
      have c0 := hc 0 _ rfl
      have c1 := hc 1 _ rfl
      have c2 := hc 2 _ rfl
      have c3 := hc 3 _ rfl
      have c4 := hc 4 _ rfl
      have c5 := hc 5 _ rfl
      have c6 := hc 6 _ rfl
      have c7 := hc 7 _ rfl
      rw [Nat.add_zero] at c0
      obtain ⟨⟨u0, u1, u2, u3⟩, bw, ⟨bA, bn, bc⟩, aw, ⟨aA, an, ac⟩⟩ := h
      simp only at c0 c1 c2 c3 c4 c5 c6 c7 rb ra
      have hbl : bn = x.b.2.length := rb.1.1.symm
      have hal : an = x.a.2.length := ra.1.1.symm
      have hbp : 0 < bn := by rw [hbl]; exact List.length_pos_iff.2 hxo.bn
      have hap : 0 < an := by rw [hal]; exact List.length_pos_iff.2 hxo.an
      have hbn : bn ≤ 99999 := by rw [hbl]; exact hxo.bl
      have han : an ≤ 99999 := by rw [hal]; exact hxo.al
      obtain ⟨m1, hm1⟩ : ∃ m, bn - 1 = m := ⟨_, rfl⟩
      obtain ⟨m2, hm2⟩ : ∃ m, an - 1 = m := ⟨_, rfl⟩
      obtain ⟨b1, o1, hA1, hb1, y0⟩ := rb.1.get (k := 0) hbp
      obtain ⟨b1', o1', hA1', -, y1⟩ := rb.1.get (k := m1) (by show m1 < bn; omega)
      obtain ⟨b2, o2, hA2, hb2, z0⟩ := ra.1.get (k := 0) hap
      obtain ⟨b2', o2', hA2', -, z1⟩ := ra.1.get (k := m2) (by show m2 < an; omega)
      simp only at hA1 hA1' hA2 hA2'
      subst hA1
      subst hA2
      cases hA1'
      cases hA2'
      have f1 : iAt x.b.2 0 = fr4 x.b.2 := rfl
      have f2 : iAt x.a.2 0 = fr4 x.a.2 := rfl
      have f3 : iAt x.b.2 m1 = la4 x.b.2 := by unfold la4; rw [← hm1, hbl]
      have f4 : iAt x.a.2 m2 = la4 x.a.2 := by unfold la4; rw [← hm2, hal]
      rw [f1, Nat.add_zero] at y0
      rw [f2, Nat.add_zero] at z0
      rw [f3] at y1
      rw [f4] at z1
      have g1 := hxo.b _ (fr4_mem hxo.bn)
      have g2 := hxo.a _ (fr4_mem hxo.an)
      have g3 := hxo.b _ (la4_mem hxo.bn)
      have g4 := hxo.a _ (la4_mem hxo.an)
      rw [hso, show so4 pt x = is4 pt (la4 x.b.2) (fr4 x.a.2) from rfl] at HSU
      rw [hno, show su4 pt x = is4 pt (fr4 x.b.2) (la4 x.a.2) from rfl] at HNU
      rw [hso, hno]
      have HF1 := Lib.hid (fun V hg hc => HIS.out _ _ g3 g2 V hg hc)
      have HF2 := Lib.hid (fun V hg hc => HIS.out _ _ g1 g4 V hg hc)
      obtain ⟨r1, hr1⟩ : ∃ r, is4 pt (la4 x.b.2) (fr4 x.a.2) = r := ⟨_, rfl⟩
      obtain ⟨r2, hr2⟩ : ∃ r, is4 pt (fr4 x.b.2) (la4 x.a.2) = r := ⟨_, rfl⟩
      rw [hr1] at HF1 HSU
      rw [hr2] at HF2 HNU
      obtain ⟨fb, hfb⟩ : ∃ t, fr4 x.b.2 = t := ⟨_, rfl⟩
      obtain ⟨fa, hfa⟩ : ∃ t, fr4 x.a.2 = t := ⟨_, rfl⟩
      obtain ⟨lb, hlb⟩ : ∃ t, la4 x.b.2 = t := ⟨_, rfl⟩
      obtain ⟨la, hla⟩ : ∃ t, la4 x.a.2 = t := ⟨_, rfl⟩
      rw [hfb] at y0 HF2
      rw [hfa] at z0 HF1
      rw [hlb] at y1 HF1
      rw [hla] at z1 HF2
      have v1 : IntKind.i64.wrap ((bn : Int) - 1) = (m1 : Nat) := by rw [IntWalk.i64_in _ (by omega)]; omega
      have v2 : IntKind.i64.wrap ((an : Int) - 1) = (m2 : Nat) := by rw [IntWalk.i64_in _ (by omega)]; omega
      have i1 : m1 < bn := by omega
      have i2 : m2 < an := by omega
      have HM := Lib.hid (And.intro hm1 hm2)
      clear hbl hal hm1 hm2 hfb hfa hlb hla hxo hxg hx f1 f2 f3 f4 rb ra hr1 hr2 hso hno g1 g2 g3 g4 hh hc
      go_upto_region 5 with (fail)
      go_name_world Y hY
      have BY : Below wr.heap.size wr Y := (al1 hY).1
      have qY := (al1_0 hY).2.1
      have lY := (al1_0 hY).1
      clear hY
      have hcq := fun p : Regrown => (bcell (below_regrown Y p.d p.os)).1
      refine wp_region_quiet_below (by kernel_rfl) (by kernel_rfl) ?_
      repeat (go_big_quiet_step ((fail)))
      refine wpQuiet_nil ?_
      intro wq hq
      obtain ⟨pq, hq⟩ := hq
      have hbq : Below Y.heap.size Y wq := by rw [hq]; exact below_regrown _ _ _
      clear hq hcq pq
      obtain ⟨hcq, hfq⟩ := bcell hbq
      have zq := hbq.size
      have BQ := BY.trans (hbq.mono BY.size)
      clear hcq hfq hbq qY BY c0 c1 c2 c3 c4 c5 c6 c7
      go_upto_region 7 with (fail)
      go_name_world Z hZ
      have BZ0 : Below wq.heap.size wq Z := by rw [← hZ]; (repeat first | with_reducible assumption | with_reducible exact Below.refl _ _ | (with_reducible refine Below.alloc ?_ ?side _; case side => (first | omega | (with_reducible exact Below.size (by assumption)) | (simp; done) | (simp; omega))) | (with_reducible refine Below.setCell ?_ ?side _; case side => (first | omega | (with_reducible exact Below.size (by assumption)) | (simp; done) | (simp; omega))) | with_reducible refine Below.drew ?_ | with_reducible refine below_drewN ?_ _ | (with_reducible refine below_step (by assumption) ?side ?_; case side => (first | omega | (with_reducible exact Below.size (by assumption)) | (simp; done) | (simp; omega))))
      clear hZ
      have BZ := BQ.trans (BZ0.mono BQ.size)
      clear BZ0 BQ
      have y0Z := (BZ.cell (p := ⟨b1, o1, none⟩) hb1).trans y0
      have y1Z := (BZ.cell (p := ⟨b1, o1 + m1, none⟩) hb1).trans y1
      have z0Z := (BZ.cell (p := ⟨b2, o2, none⟩) hb2).trans z0
      have z1Z := (BZ.cell (p := ⟨b2, o2 + m2, none⟩) hb2).trans z1
      have hb1Z := Nat.lt_of_lt_of_le hb1 BZ.size
      have hb2Z := Nat.lt_of_lt_of_le hb2 BZ.size
      have q0Z := (BZ.cell (p := ⟨w.heap.size, 0, none⟩) l0r).trans (q0r 0)
      have l0Z := Nat.lt_of_lt_of_le l0r BZ.size
      cases so <;> cases no
      all_goals
        have hcq := fun p : Regrown => (bcell (below_regrown Z p.d p.os)).1
        refine wp_region_quiet_below (by kernel_rfl) (by kernel_rfl) ?_
        repeat (go_big_quiet_step ((go_at_call 76; exact Calls.regrown_of (HF1.out _ (Nat.lt_of_lt_of_le l0Z (below_regrown Z _ _).size) ((hcq _ _ _ l0Z).trans q0Z)))))
        refine wpQuiet_nil ?_
        intro wt hq
        obtain ⟨pq, hq⟩ := hq
        have hbt : Below Z.heap.size Z wt := by rw [hq]; exact below_regrown _ _ _
        clear hq hcq pq
        obtain ⟨hct, hft⟩ := bcell hbt
        have zt := hbt.size
        have BT := BZ.trans (hbt.mono BZ.size)
        clear hct hft hbt
        go_upto_region 8 with (fail)
        go_name_world U hU
        have BU0 : Below wt.heap.size wt U := by rw [← hU]; (repeat first | with_reducible assumption | with_reducible exact Below.refl _ _ | (with_reducible refine Below.alloc ?_ ?side _; case side => (first | omega | (with_reducible exact Below.size (by assumption)) | (simp; done) | (simp; omega))) | (with_reducible refine Below.setCell ?_ ?side _; case side => (first | omega | (with_reducible exact Below.size (by assumption)) | (simp; done) | (simp; omega))) | with_reducible refine Below.drew ?_ | with_reducible refine below_drewN ?_ _ | (with_reducible refine below_step (by assumption) ?side ?_; case side => (first | omega | (with_reducible exact Below.size (by assumption)) | (simp; done) | (simp; omega))))
        clear hU
        have BU := BT.trans (BU0.mono BT.size)
        clear BU0
        clear y0Z y1Z z0Z z1Z hb1Z hb2Z l0Z q0Z
        have y0U := (BU.cell (p := ⟨b1, o1, none⟩) hb1).trans y0
        have y1U := (BU.cell (p := ⟨b1, o1 + m1, none⟩) hb1).trans y1
        have z0U := (BU.cell (p := ⟨b2, o2, none⟩) hb2).trans z0
        have z1U := (BU.cell (p := ⟨b2, o2 + m2, none⟩) hb2).trans z1
        have hb1U := Nat.lt_of_lt_of_le hb1 BU.size
        have hb2U := Nat.lt_of_lt_of_le hb2 BU.size
        have q0U := (BU.cell (p := ⟨w.heap.size, 0, none⟩) l0r).trans (q0r 0)
        have l0U := Nat.lt_of_lt_of_le l0r BU.size
        have hcq := fun p : Regrown => (bcell (below_regrown U p.d p.os)).1
        refine wp_region_quiet_below (by kernel_rfl) (by kernel_rfl) ?_
        repeat (go_big_quiet_step ((go_at_call 76; exact Calls.regrown_of (HF2.out _ (Nat.lt_of_lt_of_le l0U (below_regrown U _ _).size) ((hcq _ _ _ l0U).trans q0U)))))
        refine wpQuiet_nil ?_
        intro wv hq
        obtain ⟨pq, hq⟩ := hq
        have hbv : Below U.heap.size U wv := by rw [hq]; exact below_regrown _ _ _
        clear hq hcq pq
        obtain ⟨hcv, hfv⟩ := bcell hbv
        have zv := hbv.size
        have BV := BU.trans (hbv.mono BU.size)
        clear hcv hfv hbv
        have BVX := HBR.out.trans (BV.mono HBR.out.size)
        go_wp2_with fail
        go_roundw
        case rel => exact ⟨k + 1, by omega, by rw [HSU.out]; rfl, by rw [HNU.out]; rfl, by go_num, by (repeat first | with_reducible assumption | with_reducible exact Below.refl _ _ | (with_reducible refine Below.alloc ?_ ?side _; case side => (first | omega | (with_reducible exact Below.size (by assumption)) | (simp; done) | (simp; omega))) | (with_reducible refine Below.setCell ?_ ?side _; case side => (first | omega | (with_reducible exact Below.size (by assumption)) | (simp; done) | (simp; omega))) | with_reducible refine Below.drew ?_ | with_reducible refine below_drewN ?_ _ | (with_reducible refine below_step (by assumption) ?side ?_; case side => (first | omega | (with_reducible exact Below.size (by assumption)) | (simp; done) | (simp; omega))))⟩
        case measure => simp [intOf]; omega
    · obtain rfl : k = n := by omega
      have hkB : decide ((k : Int) < k) = false := by simp
      rw [hso, hno] at *
      cases no
      · have hzz : z = 1 := HD.out
        subst hzz
        go_wp2_with fail
        go_ret
        exact ⟨rfl, hw.out⟩
      cases so
      · have hzz : z = 2 := HD.out
        subst hzz
        go_wp2_with fail
        go_ret
        exact ⟨rfl, hw.out⟩
      · have hzz : z = 3 := HD.out
        subst hzz
        go_wp2_with fail
        go_ret
        exact ⟨rfl, hw.out⟩

end Go.Proofs.Ytmmgkmdfecnkdaa
