/- ends of stretch (layer 4): the least and the greatest stretch of some truths; Stretch of stretch (layer 4): the least and the greatest stretch of a pull; holds of stretch (layer 4): what is known of the stretch and a part of the length; Holds of stretch (layer 4); Best of stretch (layer 4): the least part with which it is sure; Many of stretch (layer 4): the number of truths; lengthsOf of stretch (layer 4): all lengths of a rod in some truths; a map's keys, ascending; Rods of stretch (layer 4): all lengths of a rod. -/
import Derived.Test.YtcbeiadimchknaaGreatQp42
import Derived.Deep.DrawnRows
import Derived.Deep.DeepCutAuto
import Derived.BigRegionIn
import Derived.Shelf.RegionOpen
import Derived.Maps.OwnOps
import Derived.Maps.OwnSet
import Derived.Maps.Views
import Derived.WalkArith
namespace Go.Proofs.YtcbeiadimchknaaGreat
open Go.RowKit
open Go.Sort (grow)
set_option linter.unusedVariables false
set_option linter.unusedSimpArgs false

def fr4 (l : List Int) : Int := iAt l 0
def la4 (l : List Int) : Int := iAt l (l.length - 1)
/-- the least and the greatest stretch of a bundle -/
def sp4 (x : Bu4) : Sp := ⟨fr4 x.a.2 - la4 x.b.2, la4 x.a.2 - fr4 x.b.2⟩
def hl4 (a b : Sp) : Sp := ⟨min a.lo b.lo, max a.hi b.hi⟩
theorem hl4_idem (a : Sp) : hl4 a a = a := by unfold hl4; simp
/-- the least and the greatest stretch of the first k -/
def en4 (l : List Bu4) (k : Nat) : Sp :=
  match (l.take k).map sp4 with
  | [] => ⟨0, 0⟩
  | x :: xs => (x :: xs).foldl hl4 x
theorem en4_succ {l : List Bu4} {k : Nat} {y : Bu4} (h : l[k]? = some y) : en4 l (k + 1) = hl4 (if k = 0 then sp4 y else en4 l k) (sp4 y) := by
  unfold en4
  rw [List.take_add_one, h, List.map_append]
  cases k with
  | zero => simp [hl4_idem]
  | succ k =>
    have hl := (List.getElem?_eq_some_iff.1 h).1
    cases e : (l.take (k + 1)).map sp4 with
    | nil =>
      have := congrArg List.length e
      rw [List.length_map, List.length_take, List.length_nil] at this
      omega
    | cons x xs =>
      simp only [Option.toList, List.map_cons, List.map_nil, List.cons_append]
      rw [if_neg (by omega), ← List.cons_append, List.foldl_append]
      rfl
/-- a bundle whose lengths are as they can be -/
structure OkB (x : Bu4) : Prop where
  bn : x.b.2 ≠ []
  an : x.a.2 ≠ []
  b : ∀ n ∈ x.b.2, 1 ≤ n ∧ n ≤ 99999
  a : ∀ n ∈ x.a.2, 1 ≤ n ∧ n ≤ 99999
  bl : x.b.2.length ≤ 99999
  al : x.a.2.length ≤ 99999
theorem tr4_ok {nr nd : Nat} {p : P4} (ok : Ok4 nr nd p) {x : Bu4} (h : x ∈ tr4 p) : OkB x := by
  obtain ⟨⟨-, h1, h2⟩, -⟩ := mem_tr4.1 h
  have hl : ∀ n ∈ ln4 p, 1 ≤ n ∧ n ≤ 99999 := fun n hn => by have := ups_mem.1 hn; have := ok.g; omega
  have hln : (ln4 p).length ≤ 99999 := by rw [ln4_len]; have := ok.g; omega
  have hle : ∀ wh g, g ∈ gr4 p wh x.u → g.2.length ≤ 99999 := fun wh g hg => by rw [(mem_gr4.1 hg).2]; exact Nat.le_trans (List.length_filter_le _ _) hln
  exact ⟨gr4_ne h1, gr4_ne h2, fun n hn => hl n ((gr4_mem h1).1 hn).1, fun n hn => hl n ((gr4_mem h2).1 hn).1, hle _ _ h1, hle _ _ h2⟩
theorem iAt_mem {l : List Int} {k : Nat} (h : k < l.length) : iAt l k ∈ l := by unfold iAt; rw [List.getD_eq_getElem?_getD, List.getElem?_eq_getElem h]; exact List.getElem_mem h
theorem fr4_mem {l : List Int} (h : l ≠ []) : fr4 l ∈ l := iAt_mem (List.length_pos_iff.2 h)
theorem la4_mem {l : List Int} (h : l ≠ []) : la4 l ∈ l := iAt_mem (by have := List.length_pos_iff.2 h; omega)

end Go.Proofs.YtcbeiadimchknaaGreat

namespace Go.Proofs.YtcbeiadimchknaaGreat
open Go.RowKit
open Go.Sort (grow)
set_option linter.unusedVariables false
set_option linter.unusedSimpArgs false

/-- what Stretch returns -/
def st4 (p : P4) : Sp := en4 (ol4 p true) (ol4 p true).length
theorem ol4_ok {p : P4} {is : Bool} (hr : p.rods.length ≤ 40) (hd : p.res.length ≤ 40) : ∀ x ∈ ol4 p is, OkB x := by
  intro x hx
  unfold ol4 at hx
  cases h : ck4 p
  · rw [h] at hx; simp at hx
  cases is
  · simp at hx
  rw [h] at hx
  simp only [Bool.and_self, cond_true] at hx
  exact tr4_ok (ok4_of h rfl rfl) hx
theorem ol4_len {p : P4} {is : Bool} (hn : ck4 p = true → (tr4 p).length ≤ 90000) : (ol4 p is).length ≤ 90000 := by
  unfold ol4
  cases h : ck4 p <;> cases is <;> first | exact hn h | exact Nat.zero_le _

end Go.Proofs.YtcbeiadimchknaaGreat

namespace Go.Proofs.YtcbeiadimchknaaGreat
open Go.RowKit
open Go.Sort (grow)
set_option linter.unusedVariables false
set_option linter.unusedSimpArgs false

/-- the stretch is at most a part of the length before -/
def is4 (pt b a : Int) : Bool := decide (1000 * (a - b) ≤ pt * b)
/-- of some truth of a bundle; of all of them -/
def so4 (pt : Int) (x : Bu4) : Bool := is4 pt (la4 x.b.2) (fr4 x.a.2)
def su4 (pt : Int) (x : Bu4) : Bool := is4 pt (fr4 x.b.2) (la4 x.a.2)
def soB (l : List Bu4) (pt : Int) (k : Nat) : Bool := (l.take k).any (so4 pt)
def noB (l : List Bu4) (pt : Int) (k : Nat) : Bool := (l.take k).any fun x => !su4 pt x
def hd4 (l : List Bu4) (pt : Int) : Int := bif noB l pt l.length then (bif soB l pt l.length then 3 else 2) else 1
theorem soB_succ (pt : Int) {l : List Bu4} {k : Nat} {x : Bu4} (h : l[k]? = some x) : soB l pt (k + 1) = (soB l pt k || so4 pt x) := by
  unfold soB
  rw [List.take_add_one, h, List.any_append]
  simp
theorem noB_succ (pt : Int) {l : List Bu4} {k : Nat} {x : Bu4} (h : l[k]? = some x) : noB l pt (k + 1) = (noB l pt k || !su4 pt x) := by
  unfold noB
  rw [List.take_add_one, h, List.any_append]
  simp
theorem is4_c (g : Nat) (pt b a : Int) (w : World) (hp : 0 ≤ pt ∧ pt ≤ 1000) (hb : 1 ≤ b ∧ b ≤ 99999) (ha : 1 ≤ a ∧ a ≤ 99999) (hg : g < w.heap.size) (hc : w.cell? ⟨g, 0, none⟩ = some (.int .i64 pt)) :
    Calls Tryz.prog 77 #[.int .i64 b, .int .i64 a, .pointer (some ⟨g, 0, none⟩)] w fun e w' => e = .returned (.bool (is4 pt b a)) ∧ Below w.heap.size w w' := by
  have hm := Int.mul_le_mul hp.2 hb.2 (show (0 : Int) ≤ b by omega) (show (0 : Int) ≤ 1000 by omega)
  have hm0 := Int.mul_nonneg hp.1 (show (0 : Int) ≤ b by omega)
  have v1 : IntKind.i64.wrap (a - b) = a - b := IntWalk.i64_in _ (by omega)
  have v2 : IntKind.i64.wrap (1000 * (a - b)) = 1000 * (a - b) := IntWalk.i64_in _ (by omega)
  have v3 : IntKind.i64.wrap (pt * b) = pt * b := IntWalk.i64_in _ (by omega)
  unfold is4
  obtain ⟨r, hr⟩ : ∃ r, decide (1000 * (a - b) ≤ pt * b) = r := ⟨_, rfl⟩
  rw [hr]
  clear hm hm0
  go_enter Tryz.func77, Tryz.ntmps77
  go_wp2
  go_ret
  exact ⟨rfl, by (repeat first | with_reducible assumption | with_reducible exact Below.refl _ _ | (with_reducible refine Below.alloc ?_ ?side _; case side => (first | omega | (with_reducible exact Below.size (by assumption)) | (simp; done) | (simp; omega))) | (with_reducible refine Below.setCell ?_ ?side _; case side => (first | omega | (with_reducible exact Below.size (by assumption)) | (simp; done) | (simp; omega))) | with_reducible refine Below.drew ?_ | with_reducible refine below_drewN ?_ _ | (with_reducible refine below_step (by assumption) ?side ?_; case side => (first | omega | (with_reducible exact Below.size (by assumption)) | (simp; done) | (simp; omega))))⟩
set_option maxRecDepth 100000 in
set_option maxHeartbeats 3200000 in
theorem holds4_c (A : Option Addr) (n c : Nat) (B0 base : Nat) (hs : List Hb) (l : List Bu4) (pt : Int) (w : World) (hn : n ≤ 90000) (hp : 0 ≤ pt ∧ pt ≤ 1000) (HB : BsAt4 B0 base w A n hs l) (hok : ∀ x ∈ l, OkB x) :
    Calls Tryz.prog 51 #[.slice A n c, .int .i64 pt] w fun e w' => e = .returned (.int .i64 (hd4 l pt)) ∧ Below w.heap.size w w' := by
  have HBI := Lib.hid HB
  have HXL := Lib.hid HB.xl
  have HOK := Lib.hid hok
  have HD : Hid (hd4 l pt = bif noB l pt n then (bif soB l pt n then 3 else 2) else 1) := by
    unfold hd4
    rw [HB.xl]
    exact Lib.hid rfl
  clear HB hok
  obtain ⟨z, hz⟩ : ∃ z, hd4 l pt = z := ⟨_, rfl⟩
  rw [hz] at HD ⊢
  clear hz
  have HIS := Lib.hid (fun b a hb ha V hg hc => is4_c w.heap.size pt b a V hp hb ha hg hc)
  clear hp
  go_enter Tryz.func51, Tryz.ntmps51
  go_upto_region 2 with (fail)
  go_name_world X hX
  have BX : Below w.heap.size w X := (al1 hX).1
  have q0 := (al1_0 hX).2.1
  have l0X := (al1_0 hX).1
  clear hX
  go_wp2_with fail
  go_loopw [5, 6, 14] (fun a b i (wr : World) => ∃ k : Nat, k ≤ n ∧ a = .bool (soB l pt k) ∧ b = .bool (noB l pt k) ∧ i = .int .i64 k ∧ Below X.heap.size X wr) (fun _ _ i _ => n - (intOf i).toNat)
  case atStart => exact ⟨0, by omega, rfl, rfl, by simp, Below.refl _ _⟩
  case round =>
    obtain ⟨k, hk, rfl, rfl, rfl, hbr⟩ := hrel
    have hw := Lib.hid (BX.trans (hbr.mono BX.size))
    have zr := hbr.size
    have q0r := fun j => (hbr.cell (p := ⟨w.heap.size, j, none⟩) l0X).trans (q0 j)
    have l0r := Nat.lt_of_lt_of_le l0X zr
    have HBR := Lib.hid hbr
    clear hbr
    obtain ⟨so, hso⟩ : ∃ s, soB l pt k = s := ⟨_, rfl⟩
    obtain ⟨no, hno⟩ : ∃ s, noB l pt k = s := ⟨_, rfl⟩
    by_cases hkn : k < n
    · have hkB : decide ((k : Int) < n) = true := by simp; omega
      have vk : IntKind.i64.wrap ((k : Int) + 1) = (k : Int) + 1 := IntWalk.i64_in _ (by omega)
      obtain ⟨b, off, hA, hb, hc, hR⟩ := (HBI.out.later hw.out).get hkn
      subst hA
      obtain ⟨x, hx⟩ : ∃ x, bxAt l k = x := ⟨_, rfl⟩
      have hxg : l[k]? = some x := by rw [← hx]; unfold bxAt; rw [List.getD_eq_getElem?_getD, List.getElem?_eq_getElem (by have := HXL.out; omega)]; rfl
      have hxo := HOK.out x (List.mem_of_getElem? hxg)
      have HSU := Lib.hid (soB_succ pt hxg)
      have HNU := Lib.hid (noB_succ pt hxg)
      rw [hx] at hR
      obtain ⟨h, hh⟩ : ∃ h, hbAt hs k = h := ⟨_, rfl⟩
      rw [hh] at hR hc
      obtain ⟨-, -, -, rb, ra⟩ := hR
      have c0 := hc 0 _ rfl
      have c1 := hc 1 _ rfl
      have c2 := hc 2 _ rfl
      have c3 := hc 3 _ rfl
      have c4 := hc 4 _ rfl
      have c5 := hc 5 _ rfl
      have c6 := hc 6 _ rfl
      have c7 := hc 7 _ rfl
      rw [Nat.add_zero] at c0
      obtain ⟨⟨u0, u1, u2, u3⟩, bw, ⟨bA, bn, bc⟩, aw, ⟨aA, an, ac⟩⟩ := h
      simp only at c0 c1 c2 c3 c4 c5 c6 c7 rb ra
      have hbl : bn = x.b.2.length := rb.1.1.symm
      have hal : an = x.a.2.length := ra.1.1.symm
      have hbp : 0 < bn := by rw [hbl]; exact List.length_pos_iff.2 hxo.bn
      have hap : 0 < an := by rw [hal]; exact List.length_pos_iff.2 hxo.an
      have hbn : bn ≤ 99999 := by rw [hbl]; exact hxo.bl
      have han : an ≤ 99999 := by rw [hal]; exact hxo.al
      obtain ⟨m1, hm1⟩ : ∃ m, bn - 1 = m := ⟨_, rfl⟩
      obtain ⟨m2, hm2⟩ : ∃ m, an - 1 = m := ⟨_, rfl⟩
      obtain ⟨b1, o1, hA1, hb1, y0⟩ := rb.1.get (k := 0) hbp
      obtain ⟨b1', o1', hA1', -, y1⟩ := rb.1.get (k := m1) (by show m1 < bn; omega)
      obtain ⟨b2, o2, hA2, hb2, z0⟩ := ra.1.get (k := 0) hap
      obtain ⟨b2', o2', hA2', -, z1⟩ := ra.1.get (k := m2) (by show m2 < an; omega)
      simp only at hA1 hA1' hA2 hA2'
      subst hA1
      subst hA2
      cases hA1'
      cases hA2'
      have f1 : iAt x.b.2 0 = fr4 x.b.2 := rfl
      have f2 : iAt x.a.2 0 = fr4 x.a.2 := rfl
      have f3 : iAt x.b.2 m1 = la4 x.b.2 := by unfold la4; rw [← hm1, hbl]
      have f4 : iAt x.a.2 m2 = la4 x.a.2 := by unfold la4; rw [← hm2, hal]
      rw [f1, Nat.add_zero] at y0
      rw [f2, Nat.add_zero] at z0
      rw [f3] at y1
      rw [f4] at z1
      have g1 := hxo.b _ (fr4_mem hxo.bn)
      have g2 := hxo.a _ (fr4_mem hxo.an)
      have g3 := hxo.b _ (la4_mem hxo.bn)
      have g4 := hxo.a _ (la4_mem hxo.an)
      rw [hso, show so4 pt x = is4 pt (la4 x.b.2) (fr4 x.a.2) from rfl] at HSU
      rw [hno, show su4 pt x = is4 pt (fr4 x.b.2) (la4 x.a.2) from rfl] at HNU
      rw [hso, hno]
      have HF1 := Lib.hid (fun V hg hc => HIS.out _ _ g3 g2 V hg hc)
      have HF2 := Lib.hid (fun V hg hc => HIS.out _ _ g1 g4 V hg hc)
      obtain ⟨r1, hr1⟩ : ∃ r, is4 pt (la4 x.b.2) (fr4 x.a.2) = r := ⟨_, rfl⟩
      obtain ⟨r2, hr2⟩ : ∃ r, is4 pt (fr4 x.b.2) (la4 x.a.2) = r := ⟨_, rfl⟩
      rw [hr1] at HF1 HSU
      rw [hr2] at HF2 HNU
      obtain ⟨fb, hfb⟩ : ∃ t, fr4 x.b.2 = t := ⟨_, rfl⟩
      obtain ⟨fa, hfa⟩ : ∃ t, fr4 x.a.2 = t := ⟨_, rfl⟩
      obtain ⟨lb, hlb⟩ : ∃ t, la4 x.b.2 = t := ⟨_, rfl⟩
      obtain ⟨la, hla⟩ : ∃ t, la4 x.a.2 = t := ⟨_, rfl⟩
      rw [hfb] at y0 HF2
      rw [hfa] at z0 HF1
      rw [hlb] at y1 HF1
      rw [hla] at z1 HF2
      have v1 : IntKind.i64.wrap ((bn : Int) - 1) = (m1 : Nat) := by rw [IntWalk.i64_in _ (by omega)]; omega
      have v2 : IntKind.i64.wrap ((an : Int) - 1) = (m2 : Nat) := by rw [IntWalk.i64_in _ (by omega)]; omega
      have i1 : m1 < bn := by omega
      have i2 : m2 < an := by omega
      have HM := Lib.hid (And.intro hm1 hm2)
      clear hbl hal hm1 hm2 hfb hfa hlb hla hxo hxg hx f1 f2 f3 f4 rb ra hr1 hr2 hso hno g1 g2 g3 g4 hh hc
      go_upto_region 5 with (fail)
      go_name_world Y hY
      have BY : Below wr.heap.size wr Y := (al1 hY).1
      have qY := (al1_0 hY).2.1
      have lY := (al1_0 hY).1
      clear hY
      have hcq := fun p : Regrown => (bcell (below_regrown Y p.d p.os)).1
      refine wp_region_quiet_below (by kernel_rfl) (by kernel_rfl) ?_
      repeat (go_big_quiet_step ((fail)))
      refine wpQuiet_nil ?_
      intro wq hq
      obtain ⟨pq, hq⟩ := hq
      have hbq : Below Y.heap.size Y wq := by rw [hq]; exact below_regrown _ _ _
      clear hq hcq pq
      obtain ⟨hcq, hfq⟩ := bcell hbq
      have zq := hbq.size
      have BQ := BY.trans (hbq.mono BY.size)
      clear hcq hfq hbq qY BY c0 c1 c2 c3 c4 c5 c6 c7
      go_upto_region 7 with (fail)
      go_name_world Z hZ
      have BZ0 : Below wq.heap.size wq Z := by rw [← hZ]; (repeat first | with_reducible assumption | with_reducible exact Below.refl _ _ | (with_reducible refine Below.alloc ?_ ?side _; case side => (first | omega | (with_reducible exact Below.size (by assumption)) | (simp; done) | (simp; omega))) | (with_reducible refine Below.setCell ?_ ?side _; case side => (first | omega | (with_reducible exact Below.size (by assumption)) | (simp; done) | (simp; omega))) | with_reducible refine Below.drew ?_ | with_reducible refine below_drewN ?_ _ | (with_reducible refine below_step (by assumption) ?side ?_; case side => (first | omega | (with_reducible exact Below.size (by assumption)) | (simp; done) | (simp; omega))))
      clear hZ
      have BZ := BQ.trans (BZ0.mono BQ.size)
      clear BZ0 BQ
      have y0Z := (BZ.cell (p := ⟨b1, o1, none⟩) hb1).trans y0
      have y1Z := (BZ.cell (p := ⟨b1, o1 + m1, none⟩) hb1).trans y1
      have z0Z := (BZ.cell (p := ⟨b2, o2, none⟩) hb2).trans z0
      have z1Z := (BZ.cell (p := ⟨b2, o2 + m2, none⟩) hb2).trans z1
      have hb1Z := Nat.lt_of_lt_of_le hb1 BZ.size
      have hb2Z := Nat.lt_of_lt_of_le hb2 BZ.size
      have q0Z := (BZ.cell (p := ⟨w.heap.size, 0, none⟩) l0r).trans (q0r 0)
      have l0Z := Nat.lt_of_lt_of_le l0r BZ.size
      cases so <;> cases no
      all_goals
        have hcq := fun p : Regrown => (bcell (below_regrown Z p.d p.os)).1
        refine wp_region_quiet_below (by kernel_rfl) (by kernel_rfl) ?_
        repeat (go_big_quiet_step ((go_at_call 77; exact Calls.regrown_of (HF1.out _ (Nat.lt_of_lt_of_le l0Z (below_regrown Z _ _).size) ((hcq _ _ _ l0Z).trans q0Z)))))
        refine wpQuiet_nil ?_
        intro wt hq
        obtain ⟨pq, hq⟩ := hq
        have hbt : Below Z.heap.size Z wt := by rw [hq]; exact below_regrown _ _ _
        clear hq hcq pq
        obtain ⟨hct, hft⟩ := bcell hbt
        have zt := hbt.size
        have BT := BZ.trans (hbt.mono BZ.size)
        clear hct hft hbt
        go_upto_region 8 with (fail)
        go_name_world U hU
        have BU0 : Below wt.heap.size wt U := by rw [← hU]; (repeat first | with_reducible assumption | with_reducible exact Below.refl _ _ | (with_reducible refine Below.alloc ?_ ?side _; case side => (first | omega | (with_reducible exact Below.size (by assumption)) | (simp; done) | (simp; omega))) | (with_reducible refine Below.setCell ?_ ?side _; case side => (first | omega | (with_reducible exact Below.size (by assumption)) | (simp; done) | (simp; omega))) | with_reducible refine Below.drew ?_ | with_reducible refine below_drewN ?_ _ | (with_reducible refine below_step (by assumption) ?side ?_; case side => (first | omega | (with_reducible exact Below.size (by assumption)) | (simp; done) | (simp; omega))))
        clear hU
        have BU := BT.trans (BU0.mono BT.size)
        clear BU0
        clear y0Z y1Z z0Z z1Z hb1Z hb2Z l0Z q0Z
        have y0U := (BU.cell (p := ⟨b1, o1, none⟩) hb1).trans y0
        have y1U := (BU.cell (p := ⟨b1, o1 + m1, none⟩) hb1).trans y1
        have z0U := (BU.cell (p := ⟨b2, o2, none⟩) hb2).trans z0
        have z1U := (BU.cell (p := ⟨b2, o2 + m2, none⟩) hb2).trans z1
        have hb1U := Nat.lt_of_lt_of_le hb1 BU.size
        have hb2U := Nat.lt_of_lt_of_le hb2 BU.size
        have q0U := (BU.cell (p := ⟨w.heap.size, 0, none⟩) l0r).trans (q0r 0)
        have l0U := Nat.lt_of_lt_of_le l0r BU.size
        have hcq := fun p : Regrown => (bcell (below_regrown U p.d p.os)).1
        refine wp_region_quiet_below (by kernel_rfl) (by kernel_rfl) ?_
        repeat (go_big_quiet_step ((go_at_call 77; exact Calls.regrown_of (HF2.out _ (Nat.lt_of_lt_of_le l0U (below_regrown U _ _).size) ((hcq _ _ _ l0U).trans q0U)))))
        refine wpQuiet_nil ?_
        intro wv hq
        obtain ⟨pq, hq⟩ := hq
        have hbv : Below U.heap.size U wv := by rw [hq]; exact below_regrown _ _ _
        clear hq hcq pq
        obtain ⟨hcv, hfv⟩ := bcell hbv
        have zv := hbv.size
        have BV := BU.trans (hbv.mono BU.size)
        clear hcv hfv hbv
        have BVX := HBR.out.trans (BV.mono HBR.out.size)
        go_wp2_with fail
        go_roundw
        case rel => exact ⟨k + 1, by omega, by rw [HSU.out]; rfl, by rw [HNU.out]; rfl, by go_num, by (repeat first | with_reducible assumption | with_reducible exact Below.refl _ _ | (with_reducible refine Below.alloc ?_ ?side _; case side => (first | omega | (with_reducible exact Below.size (by assumption)) | (simp; done) | (simp; omega))) | (with_reducible refine Below.setCell ?_ ?side _; case side => (first | omega | (with_reducible exact Below.size (by assumption)) | (simp; done) | (simp; omega))) | with_reducible refine Below.drew ?_ | with_reducible refine below_drewN ?_ _ | (with_reducible refine below_step (by assumption) ?side ?_; case side => (first | omega | (with_reducible exact Below.size (by assumption)) | (simp; done) | (simp; omega))))⟩
        case measure => simp [intOf]; omega
    · obtain rfl : k = n := by omega
      have hkB : decide ((k : Int) < k) = false := by simp
      rw [hso, hno] at *
      cases no
      · have hzz : z = 1 := HD.out
        subst hzz
        go_wp2_with fail
        go_ret
        exact ⟨rfl, hw.out⟩
      cases so
      · have hzz : z = 2 := HD.out
        subst hzz
        go_wp2_with fail
        go_ret
        exact ⟨rfl, hw.out⟩
      · have hzz : z = 3 := HD.out
        subst hzz
        go_wp2_with fail
        go_ret
        exact ⟨rfl, hw.out⟩

end Go.Proofs.YtcbeiadimchknaaGreat

namespace Go.Proofs.YtcbeiadimchknaaGreat
open Go.RowKit
open Go.Sort (grow)
set_option linter.unusedVariables false
set_option linter.unusedSimpArgs false

theorem op4_ol {p : P4} {is : Bool} (h : op4 p is = 0) : is = true ∧ ck4 p = true ∧ ol4 p is = tr4 p ∧ tr4 p ≠ [] := by
  unfold op4 at h
  unfold ol4
  cases hc : ck4 p <;> rw [hc] at h
  · simp at h
  cases is
  · simp at h
  cases ht : tr4 p with
  | nil => rw [ht] at h; simp at h
  | cons a l => simp
/-- behind the store of the bench's cells -/
theorem far6 {B0 base n : Nat} {w : World} {A : Option Addr} {hs : List Hb} {xs : List Bu4} (h : BsAt4 B0 base w A n hs xs) {g : Nat} (h1 : B0 ≤ g) (h2 : g < base) (u0 u1 u2 u3 u4 u5 : Value) :
    BsAt4 B0 base ((((((w.setCell ⟨g, 0, none⟩ u0).setCell ⟨g, 1, none⟩ u1).setCell ⟨g, 2, none⟩ u2).setCell ⟨g, 3, none⟩ u3).setCell ⟨g, 4, none⟩ u4).setCell ⟨g, 5, none⟩ u5) A n hs xs :=
  (((((h.far (p := ⟨g, 0, none⟩) h1 h2 u0).far (p := ⟨g, 1, none⟩) h1 h2 u1).far (p := ⟨g, 2, none⟩) h1 h2 u2).far (p := ⟨g, 3, none⟩) h1 h2 u3).far (p := ⟨g, 4, none⟩) h1 h2 u4).far (p := ⟨g, 5, none⟩) h1 h2 u5
theorem cell6 {w : World} {g b j : Nat} {u0 u1 u2 u3 u4 u5 : Value} (h : b ≠ g) :
    ((((((w.setCell ⟨g, 0, none⟩ u0).setCell ⟨g, 1, none⟩ u1).setCell ⟨g, 2, none⟩ u2).setCell ⟨g, 3, none⟩ u3).setCell ⟨g, 4, none⟩ u4).setCell ⟨g, 5, none⟩ u5).cell? ⟨b, j, none⟩ = w.cell? ⟨b, j, none⟩ := by
  have e : ∀ (w : World) (i : Nat) (u : Value), (w.setCell ⟨g, i, none⟩ u).cell? ⟨b, j, none⟩ = w.cell? ⟨b, j, none⟩ := fun w i u => World.cell?_setCell_other _ _ _ _ (by intro h'; simp only [Addr.mk.injEq] at h'; omega)
  rw [e, e, e, e, e, e]
theorem set6 {w : World} {B g : Nat} {u0 u1 u2 u3 u4 u5 : Value} (h : B ≤ g) :
    Below B w ((((((w.setCell ⟨g, 0, none⟩ u0).setCell ⟨g, 1, none⟩ u1).setCell ⟨g, 2, none⟩ u2).setCell ⟨g, 3, none⟩ u3).setCell ⟨g, 4, none⟩ u4).setCell ⟨g, 5, none⟩ u5) :=
  (((((((Below.refl _ _).setCell h _).setCell h _).setCell h _).setCell h _).setCell h _).setCell h _)
def hds4 (p : P4) (pt : Int) : Int := bif op4 p (wn pt 0 1000) == 0 then hd4 (tr4 p) pt else 0

end Go.Proofs.YtcbeiadimchknaaGreat

namespace Go.Proofs.YtcbeiadimchknaaGreat
open Go.RowKit
open Go.Sort (grow)
set_option linter.unusedVariables false
set_option linter.unusedSimpArgs false

def bst4 (l : List Bu4) : Option Nat := (List.range 1001).find? fun k => hd4 l (k : Nat) == 1
def bev4 (p : P4) : Int := bif op4 p true == 0 then ((bst4 (tr4 p)).map fun k => (k : Int)).getD 0 else 0
def bee4 (p : P4) : Int := bif op4 p true == 0 then (bif (bst4 (tr4 p)).isSome then 0 else 3) else op4 p true
theorem bst4_some {l : List Bu4} {k : Nat} (hk : k < 1001) (h1 : hd4 l k = 1) (h0 : ∀ j : Nat, j < k → hd4 l j ≠ 1) : bst4 l = some k := by
  unfold bst4
  rw [List.find?_eq_some_iff_append]
  refine ⟨by simpa using h1, List.range k, (List.range (1000 - k)).map (· + (k + 1)), ?_, ?_⟩
  · rw [show 1001 = k + ((1000 - k) + 1) by omega, List.range_add, List.range_succ_eq_map]
    simp [Function.comp_def]
    intro a _
    omega
  · intro a ha
    have := h0 a (List.mem_range.1 ha)
    simpa using this
theorem bst4_none {l : List Bu4} (h0 : ∀ j : Nat, j < 1001 → hd4 l j ≠ 1) : bst4 l = none := by
  unfold bst4
  rw [List.find?_eq_none]
  intro a ha
  have := h0 a (List.mem_range.1 ha)
  simpa using this
set_option maxRecDepth 100000 in
set_option maxHeartbeats 3200000 in
theorem best4_c (Ar : Option Addr) (nr cr : Nat) (Ad : Option Addr) (nd cd : Nat) (p : P4) (w : World) (hnr : nr ≤ 40) (hnd : nd ≤ 40) (HM : MemP Ar nr Ad nd p w) (hn : ck4 p = true → (tr4 p).length ≤ 90000) :
    Calls Tryz.prog 25 #[.agg #[.int .i64 p.ir, .int .i64 p.glo, .int .i64 p.ghi, .slice Ar nr cr, .slice Ad nd cd, .int .i64 p.wr]] w fun e w' =>
      e = .returned (.tuple #[.int .i64 (bev4 p), .int .i64 (bee4 p)]) ∧ Below w.heap.size w w' := by
  have HOP := Lib.hid (fun V (hV : Below w.heap.size w V) => open4_c Ar nr cr Ad nd cd p true V hnr hnd (HM.later hV) hn)
  have hr := HM.hr.1
  have hd := HM.hd.1
  have HK := Lib.hid (ol4_ok (p := p) (is := true) (by omega) (by omega))
  have hl := ol4_len (p := p) (is := true) hn
  have HH : Hid (op4 p true = 0 → ol4 p true = tr4 p) := Lib.hid (fun h => (op4_ol h).2.2.1)
  unfold bev4 bee4
  unfold Op4 at HOP
  obtain ⟨z, hz⟩ : ∃ z, op4 p true = z := ⟨_, rfl⟩
  obtain ⟨l, hll⟩ : ∃ l, ol4 p true = l := ⟨_, rfl⟩
  rw [hz, hll] at HOP
  rw [hz, hll] at HH
  rw [hll] at HK hl
  rw [hz]
  obtain ⟨m, hm⟩ : ∃ m, l.length = m := ⟨_, rfl⟩
  rw [hm] at HOP hl
  have HHD := Lib.hid (fun (k : Nat) (hp : k < 1001) A c hs base V (HB : BsAt4 0 base V A m hs l) => holds4_c A m c 0 base hs l (k : Int) V hl (by omega) HB HK.out)
  clear HM hr hd hn hz hll hm hl HK
  obtain ⟨ts, hts⟩ : ∃ ts, tr4 p = ts := ⟨_, rfl⟩
  rw [hts] at HH ⊢
  clear hts
  obtain ⟨ir, glo, ghi, wrg, rods, res⟩ := p
  simp only at HOP ⊢
  obtain ⟨v, hv⟩ : ∃ v : Int, (bif z == 0 then ((bst4 ts).map fun k => (k : Int)).getD 0 else 0) = v := ⟨_, rfl⟩
  obtain ⟨ee, hee⟩ : ∃ v : Int, (bif z == 0 then (bif (bst4 ts).isSome then 0 else 3) else z) = v := ⟨_, rfl⟩
  rw [hv, hee]
  replace hv := Lib.hid hv
  replace hee := Lib.hid hee
  go_enter Tryz.func25, Tryz.ntmps25
  go_upto_region 1 with (fail)
  go_name_world X hX
  have BX : Below w.heap.size w X := (al1 hX).1
  have q0 := (al1_0 hX).2.1
  have l0 := (al1_0 hX).1
  clear hX
  go_upto_region 2 with (go_at_call 44; refine (HOP.out X BX).mono ?_; (rintro e w1 ⟨A, c, hs, rfl, hBs, hb1⟩); (have z1 := hb1.size); (have B1 := BX.trans (hb1.mono BX.size)); (have HBs := Lib.hid hBs); clear hb1 hBs)
  go_name_world Y hY
  have BY : Below w1.heap.size w1 Y := (al1 hY).1
  have HBY := Lib.hid (HBs.out.later BY)
  have B2 := B1.trans (BY.mono B1.size)
  clear hY BY
  by_cases hz0 : z = 0
  · subst hz0
    obtain rfl := HH.out rfl
    simp only [beq_self_eq_true, cond_true] at hv hee
    clear HH HOP
    have HHC := Lib.hid (fun (k : Nat) (hp : k < 1001) V (hV : Below Y.heap.size Y V) => HHD.out k hp A c hs _ V (HBY.out.later hV))
    clear HHD
    go_wp2_with fail
    go_loopw [7, 17] (fun a i (wr : World) => ∃ k : Nat, k ≤ 1001 ∧ i = .int .i64 k ∧ Hid (∀ j : Nat, j < k → hd4 l j ≠ 1) ∧ Below Y.heap.size Y wr) (fun a i _ => 1001 - (intOf i).toNat)
    case atStart => exact ⟨0, by omega, by simp, Lib.hid (fun j hj => absurd hj (by omega)), Below.refl _ _⟩
    case round =>
      obtain ⟨k, hk, rfl, H0, hbr⟩ := hrel
      have hw := B2.trans (hbr.mono B2.size)
      by_cases hkn : k < 1001
      · have hkB : decide ((k : Int) < 1001) = true := by simp; omega
        have vk : IntKind.i64.wrap ((k : Int) + 1) = (k : Int) + 1 := IntWalk.i64_in _ (by omega)
        have HC := Lib.hid (HHC.out k hkn wr hbr)
        obtain ⟨x, hx⟩ : ∃ x, hd4 l (k : Int) = x := ⟨_, rfl⟩
        rw [hx] at HC
        by_cases h1 : x = 1
        · subst h1
          have e := bst4_some hkn hx H0.out
          simp only [e, Option.isSome_some, cond_true] at hv hee
          have e1 := hv.out
          have e2 := hee.out
          subst e1 e2
          clear e hx
          go_wp2_with (go_at_call 51; refine HC.out.mono ?_; (rintro e w2 ⟨rfl, hb2⟩); (have B3 := hw.trans (hb2.mono hw.size)); clear hb2)
          exact bodyPost_ret (v := .tuple #[.int .i64 (k : Int), .int .i64 0]) (by simp [results, Tryz.results25, go_sem]) rfl ⟨rfl, B3⟩
        · have hx1 : (x == 1) = false := by simpa using h1
          have HH1 : Hid (∀ j : Nat, j < k + 1 → hd4 l j ≠ 1) := Lib.hid (fun j hj => by
            rcases Nat.lt_succ_iff_lt_or_eq.1 hj with h | rfl
            · exact H0.out j h
            · rw [hx]; exact h1)
          clear hx
          go_wp2_with (go_at_call 51; refine HC.out.mono ?_; (rintro e w2 ⟨rfl, hb2⟩); (have B3 := hbr.trans (hb2.mono hbr.size)); clear hb2)
          go_roundw
          case rel => exact ⟨k + 1, by omega, by go_num, HH1, B3⟩
          case measure => simp [intOf]; omega
      · obtain rfl : k = 1001 := by omega
        have e := bst4_none H0.out
        simp only [e, Option.isSome_none, cond_false] at hv hee
        have e1 := hv.out
        have e2 := hee.out
        subst e1 e2
        clear e
        go_wp2_with fail
        exact bodyPost_ret (v := .tuple #[.int .i64 0, .int .i64 3]) (by simp [results, Tryz.results25, go_sem]) rfl ⟨rfl, hw⟩
  · have hzb : (z == 0) = false := by simpa using hz0
    have hzn : (z != 0) = true := by simpa using hz0
    rw [hzb] at hv hee
    simp only [cond_false] at hv hee
    have e1 := hv.out
    have e2 := hee.out
    subst e1 e2
    clear HHD HH
    go_wp2_with fail
    exact bodyPost_ret (v := .tuple #[.int .i64 0, .int .i64 z]) (by simp [results, Tryz.results25, go_sem]) rfl ⟨rfl, B2⟩

end Go.Proofs.YtcbeiadimchknaaGreat

namespace Go.Proofs.YtcbeiadimchknaaGreat
open Go.RowKit
open Go.Sort (grow)
set_option linter.unusedVariables false
set_option linter.unusedSimpArgs false

def mn4 (l : List Bu4) (k : Nat) : Nat := ((l.take k).map fun x => x.b.2.length * x.a.2.length).sum
theorem mn4_succ {l : List Bu4} {k : Nat} {x : Bu4} (h : l[k]? = some x) : mn4 l (k + 1) = mn4 l k + x.b.2.length * x.a.2.length := by
  unfold mn4
  rw [List.take_add_one, h]
  simp
theorem prod9 {a b : Nat} (ha : a ≤ 99999) (hb : b ≤ 99999) : a * b ≤ 9999800001 := Nat.le_trans (Nat.mul_le_mul ha hb) (by decide)
theorem mn4_le {l : List Bu4} (h : ∀ x ∈ l, OkB x) : ∀ k, k ≤ l.length → mn4 l k ≤ 9999800001 * k
  | 0, _ => by simp [mn4]
  | k + 1, hk => by
    have hx : l[k]? = some (l[k]'(by omega)) := List.getElem?_eq_getElem (by omega)
    have := mn4_le h k (by omega)
    have ho := h _ (List.mem_of_getElem? hx)
    rw [mn4_succ hx]
    have := prod9 ho.bl ho.al
    omega

end Go.Proofs.YtcbeiadimchknaaGreat

namespace Go.Proofs.YtcbeiadimchknaaGreat
open Go.RowKit Go.Maps
open Go.Sort (grow)
set_option linter.unusedVariables false
set_option linter.unusedSimpArgs false

/-- a map reads as a set of numbers -/
def KeyD (D : DataW Unit) (f : Int → Bool) : Prop := IsMap D ∧ ∀ x, has D (.int .i64 x) = f x
theorem KeyD.made {f : Int → Bool} (h : ∀ x, f x = false) : KeyD (.map []) f := ⟨isMap_empty, fun x => by rw [h]; rfl⟩
theorem KeyD.put {D : DataW Unit} {f g : Int → Bool} (h : KeyD D f) {x : Int} {d : DataW Unit} (h2 : ∀ y, g y = (f y || y == x)) : KeyD (D.put (.int .i64 x) d) g := by
  refine ⟨h.1.put _ _, fun y => ?_⟩
  rw [h2]
  by_cases e : y = x
  · subst e; rw [has_put_same h.1 (keyLit_int y)]; simp
  · rw [has_put_other (fun h => e (by injection h)), h.2 y, show (y == x) = false by simpa using e, Bool.or_false]
theorem KeyD.congr {D : DataW Unit} {f g : Int → Bool} (h : KeyD D f) (h2 : ∀ y, g y = f y) : KeyD D g := ⟨h.1, fun y => by rw [h.2, h2]⟩
theorem keysK_c (b nn : Nat) (D0 : DataW Unit) (w : World) (hown : w.ownsMap Tryz.prog 3 (plainElem Tryz.prog 3) b nn D0) (f : Int → Bool) (hf : KeyD D0 f) (L : List Int) (hL : L.Pairwise (· < ·)) (hm : ∀ x, x ∈ L ↔ f x = true) (hn : nn ≤ 10000000000) :
    Calls Tryz.prog 46 #[.map (some b)] w fun e w' => ∃ A c, e = .returned (.slice A L.length c) ∧ IntsAt w' A L.length L ∧ Below w.heap.size w w' := by
  have hsz := hown.size_le
  refine (keys4_c b nn D0 _ w hown (by unfold maxLen; omega) (by omega)).mono ?_
  rintro e w' ⟨v, ss, rfl, hS, hrow, hb⟩
  have hk := keys_sorted hown Tryz.underlying3 hS hL (fun x => by rw [hm, hf.2])
  have hl : ss.length = L.length := by rw [← hk, List.length_mergeSort]
  rw [hk, hl, show (encZ : Int → Value) = Value.int .i64 from rfl, ← encI_map4] at hrow
  obtain ⟨A, c, rfl, -, hsl⟩ := SlAt.of_own (d := (0 : Int)) encI_len hrow rfl
  exact ⟨A, c, rfl, ints_iff.2 hsl, hb⟩
/-- all lengths of a rod in some truths -/
def rl4 (l : List Bu4) (q : Nat) : List Int := (ups 0 9999).filter fun n => l.any fun x => n == x.u.at_ q
def rk4 (l : List Bu4) (q k : Nat) (n : Int) : Bool := (l.take k).any fun x => n == x.u.at_ q
theorem rk4_succ {l : List Bu4} {q k : Nat} {x : Bu4} (h : l[k]? = some x) (n : Int) : rk4 l q (k + 1) n = (rk4 l q k n || n == x.u.at_ q) := by
  unfold rk4
  rw [List.take_add_one, h, List.any_append]
  simp
theorem at_b4 {a b c d : Int} {v4 v5 v6 v7 : Value} {q : Nat} (h : q < 4) : (#[Value.int .i64 a, .int .i64 b, .int .i64 c, .int .i64 d, v4, v5, v6, v7] : Array Value)[q]? = some (.int .i64 ((⟨a, b, c, d⟩ : W4).at_ q)) := by
  match q, h with
  | 0, _ => rfl
  | 1, _ => rfl
  | 2, _ => rfl
  | 3, _ => rfl

end Go.Proofs.YtcbeiadimchknaaGreat

namespace Go.Proofs.YtcbeiadimchknaaGreat
open Go.RowKit
open Go.Sort (grow)
set_option linter.unusedVariables false
set_option linter.unusedSimpArgs false

def rds4 (p : P4) (rod : Int) : List Int := bif op4 p (wn rod 0 ((p.rods.length : Int) - 1)) == 0 then rl4 (tr4 p) rod.toNat else []
theorem ol4_okw {p : P4} {is : Bool} : ∀ x ∈ ol4 p is, OkW x.u := by
  intro x hx
  unfold ol4 at hx
  cases h : ck4 p
  · rw [h] at hx; simp at hx
  cases is
  · simp at hx
  rw [h] at hx
  simp only [Bool.and_self, cond_true] at hx
  exact ws4_ok (ok4_of h rfl rfl) (mem_tr4.1 hx).1.1
theorem nil_ints (w : World) : IntsAt w none 0 [] := ⟨rfl, fun h => absurd h (by omega)⟩

end Go.Proofs.YtcbeiadimchknaaGreat
