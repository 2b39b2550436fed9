/- Best of stretch (layer 4): the least part with which it is sure; Many of stretch (layer 4): the number of truths; lengthsOf of stretch (layer 4): all lengths of a rod in some truths; a map's keys, ascending. -/
import Derived.Test.YtmmgkmdfecnkdaaQa25
import Derived.Maps.OwnOps
import Derived.Maps.OwnSet
import Derived.Maps.Views
import Derived.WalkArith
namespace Go.Proofs.Ytmmgkmdfecnkdaa
open Go.RowKit
open Go.Sort (grow)
set_option linter.unusedVariables false
set_option linter.unusedSimpArgs false

def bst4 (l : List Bu4) : Option Nat := (List.range 1001).find? fun k => hd4 l (k : Nat) == 1
def bev4 (p : P4) : Int := bif op4 p true == 0 then ((bst4 (tr4 p)).map fun k => (k : Int)).getD 0 else 0
def bee4 (p : P4) : Int := bif op4 p true == 0 then (bif (bst4 (tr4 p)).isSome then 0 else 3) else op4 p true
theorem bst4_some {l : List Bu4} {k : Nat} (hk : k < 1001) (h1 : hd4 l k = 1) (h0 : ∀ j : Nat, j < k → hd4 l j ≠ 1) : bst4 l = some k := by
  unfold bst4
  rw [List.find?_eq_some_iff_append]
  refine ⟨by simpa using h1, List.range k, (List.range (1000 - k)).map (· + (k + 1)), ?_, ?_⟩
  · rw [show 1001 = k + ((1000 - k) + 1) by omega, List.range_add, List.range_succ_eq_map]
    simp [Function.comp_def]
    intro a _
    omega
  · intro a ha
    have := h0 a (List.mem_range.1 ha)
    simpa using this
theorem bst4_none {l : List Bu4} (h0 : ∀ j : Nat, j < 1001 → hd4 l j ≠ 1) : bst4 l = none := by
  unfold bst4
  rw [List.find?_eq_none]
  intro a ha
  have := h0 a (List.mem_range.1 ha)
  simpa using this
set_option maxRecDepth 100000 in
set_option maxHeartbeats 3200000 in
theorem best4_c (Ar : Option Addr) (nr cr : Nat) (Ad : Option Addr) (nd cd : Nat) (p : P4) (w : World) (hnr : nr ≤ 40) (hnd : nd ≤ 40) (HM : MemP Ar nr Ad nd p w) (hn : ck4 p = true → (tr4 p).length ≤ 90000) :
    Calls Try.prog 26 #[.agg #[.int .i64 p.ir, .int .i64 p.glo, .int .i64 p.ghi, .slice Ar nr cr, .slice Ad nd cd, .int .i64 p.wr]] w fun e w' =>
      e = .returned (.tuple #[.int .i64 (bev4 p), .int .i64 (bee4 p)]) ∧ Below w.heap.size w w' := by
  have HOP := Lib.hid (fun V (hV : Below w.heap.size w V) => open4_c Ar nr cr Ad nd cd p true V hnr hnd (HM.later hV) hn)
  have hr := HM.hr.1
  have hd := HM.hd.1
  have HK := Lib.hid (ol4_ok (p := p) (is := true) (by omega) (by omega))
  have hl := ol4_len (p := p) (is := true) hn
  have HH : Hid (op4 p true = 0 → ol4 p true = tr4 p) := Lib.hid (fun h => (op4_ol h).2.2.1)
  unfold bev4 bee4
  unfold Op4 at HOP
  obtain ⟨z, hz⟩ : ∃ z, op4 p true = z := ⟨_, rfl⟩
  obtain ⟨l, hll⟩ : ∃ l, ol4 p true = l := ⟨_, rfl⟩
  rw [hz, hll] at HOP
  rw [hz, hll] at HH
  rw [hll] at HK hl
  rw [hz]
  obtain ⟨m, hm⟩ : ∃ m, l.length = m := ⟨_, rfl⟩
  rw [hm] at HOP hl
  have HHD := Lib.hid (fun (k : Nat) (hp : k < 1001) A c hs base V (HB : BsAt4 0 base V A m hs l) => holds4_c A m c 0 base hs l (k : Int) V hl (by omega) HB HK.out)
  clear HM hr hd hn hz hll hm hl HK
  obtain ⟨ts, hts⟩ : ∃ ts, tr4 p = ts := ⟨_, rfl⟩
  rw [hts] at HH ⊢
  clear hts
  obtain ⟨ir, glo, ghi, wrg, rods, res⟩ := p
  simp only at HOP ⊢
  obtain ⟨v, hv⟩ : ∃ v : Int, (bif z == 0 then ((bst4 ts).map fun k => (k : Int)).getD 0 else 0) = v := ⟨_, rfl⟩
  obtain ⟨ee, hee⟩ : ∃ v : Int, (bif z == 0 then (bif (bst4 ts).isSome then 0 else 3) else z) = v := ⟨_, rfl⟩
  rw [hv, hee]
  replace hv := Lib.hid hv
  replace hee := Lib.hid hee
  go_enter Try.func26, Try.ntmps26
  go_upto_region 1 with (fail)
  go_name_world X hX
  have BX : Below w.heap.size w X := (al1 hX).1
  have q0 := (al1_0 hX).2.1
  have l0 := (al1_0 hX).1
  clear hX
  go_upto_region 2 with (go_at_call 44; refine (HOP.out X BX).mono ?_; (rintro e w1 ⟨A, c, hs, rfl, hBs, hb1⟩); (have z1 := hb1.size); (have B1 := BX.trans (hb1.mono BX.size)); (have HBs := Lib.hid hBs); clear hb1 hBs)
  go_name_world Y hY
  have BY : Below w1.heap.size w1 Y := (al1 hY).1
  have HBY := Lib.hid (HBs.out.later BY)
  have B2 := B1.trans (BY.mono B1.size)
  clear hY BY
  by_cases hz0 : z = 0
  · subst hz0
    obtain rfl := HH.out rfl
    simp only [beq_self_eq_true, cond_true] at hv hee
    clear HH HOP
    have HHC := Lib.hid (fun (k : Nat) (hp : k < 1001) V (hV : Below Y.heap.size Y V) => HHD.out k hp A c hs _ V (HBY.out.later hV))
    clear HHD
    go_wp2_with fail
    go_loopw [7, 17] (fun a i (wr : World) => ∃ k : Nat, k ≤ 1001 ∧ i = .int .i64 k ∧ Hid (∀ j : Nat, j < k → hd4 l j ≠ 1) ∧ Below Y.heap.size Y wr) (fun a i _ => 1001 - (intOf i).toNat)
    case atStart => exact ⟨0, by omega, by simp, Lib.hid (fun j hj => absurd hj (by omega)), Below.refl _ _⟩
    case round =>
      obtain ⟨k, hk, rfl, H0, hbr⟩ := hrel
      have hw := B2.trans (hbr.mono B2.size)
      by_cases hkn : k < 1001
      · have hkB : decide ((k : Int) < 1001) = true := by simp; omega
        have vk : IntKind.i64.wrap ((k : Int) + 1) = (k : Int) + 1 := IntWalk.i64_in _ (by omega)
        have HC := Lib.hid (HHC.out k hkn wr hbr)
        obtain ⟨x, hx⟩ : ∃ x, hd4 l (k : Int) = x := ⟨_, rfl⟩
        rw [hx] at HC
        by_cases h1 : x = 1
        · subst h1
          have e := bst4_some hkn hx H0.out
          simp only [e, Option.isSome_some, cond_true] at hv hee
          have e1 := hv.out
          have e2 := hee.out
          subst e1 e2
          clear e hx
          go_wp2_with (go_at_call 56; refine HC.out.mono ?_; (rintro e w2 ⟨rfl, hb2⟩); (have B3 := hw.trans (hb2.mono hw.size)); clear hb2)
          exact bodyPost_ret (v := .tuple #[.int .i64 (k : Int), .int .i64 0]) (by simp [results, Try.results26, go_sem]) rfl ⟨rfl, B3⟩
        · have hx1 : (x == 1) = false := by simpa using h1
          have HH1 : Hid (∀ j : Nat, j < k + 1 → hd4 l j ≠ 1) := Lib.hid (fun j hj => by
            rcases Nat.lt_succ_iff_lt_or_eq.1 hj with h | rfl
            · exact H0.out j h
            · rw [hx]; exact h1)
          clear hx
          go_wp2_with (go_at_call 56; refine HC.out.mono ?_; (rintro e w2 ⟨rfl, hb2⟩); (have B3 := hbr.trans (hb2.mono hbr.size)); clear hb2)
          go_roundw
          case rel => exact ⟨k + 1, by omega, by go_num, HH1, B3⟩
          case measure => simp [intOf]; omega
      · obtain rfl : k = 1001 := by omega
        have e := bst4_none H0.out
        simp only [e, Option.isSome_none, cond_false] at hv hee
        have e1 := hv.out
        have e2 := hee.out
        subst e1 e2
        clear e
        go_wp2_with fail
        exact bodyPost_ret (v := .tuple #[.int .i64 0, .int .i64 3]) (by simp [results, Try.results26, go_sem]) rfl ⟨rfl, hw⟩
  · have hzb : (z == 0) = false := by simpa using hz0
    have hzn : (z != 0) = true := by simpa using hz0
    rw [hzb] at hv hee
    simp only [cond_false] at hv hee
    have e1 := hv.out
    have e2 := hee.out
    subst e1 e2
    clear HHD HH
    go_wp2_with fail
    exact bodyPost_ret (v := .tuple #[.int .i64 0, .int .i64 z]) (by simp [results, Try.results26, go_sem]) rfl ⟨rfl, B2⟩

end Go.Proofs.Ytmmgkmdfecnkdaa

namespace Go.Proofs.Ytmmgkmdfecnkdaa
open Go.RowKit
open Go.Sort (grow)
set_option linter.unusedVariables false
set_option linter.unusedSimpArgs false

def mn4 (l : List Bu4) (k : Nat) : Nat := ((l.take k).map fun x => x.b.2.length * x.a.2.length).sum
theorem mn4_succ {l : List Bu4} {k : Nat} {x : Bu4} (h : l[k]? = some x) : mn4 l (k + 1) = mn4 l k + x.b.2.length * x.a.2.length := by
  unfold mn4
  rw [List.take_add_one, h]
  simp
theorem prod9 {a b : Nat} (ha : a ≤ 99999) (hb : b ≤ 99999) : a * b ≤ 9999800001 := Nat.le_trans (Nat.mul_le_mul ha hb) (by decide)
theorem mn4_le {l : List Bu4} (h : ∀ x ∈ l, OkB x) : ∀ k, k ≤ l.length → mn4 l k ≤ 9999800001 * k
  | 0, _ => by simp [mn4]
  | k + 1, hk => by
    have hx : l[k]? = some (l[k]'(by omega)) := List.getElem?_eq_getElem (by omega)
    have := mn4_le h k (by omega)
    have ho := h _ (List.mem_of_getElem? hx)
    rw [mn4_succ hx]
    have := prod9 ho.bl ho.al
    omega
set_option maxRecDepth 100000 in
set_option maxHeartbeats 3200000 in
theorem many4_c (Ar : Option Addr) (nr cr : Nat) (Ad : Option Addr) (nd cd : Nat) (p : P4) (w : World) (hnr : nr ≤ 40) (hnd : nd ≤ 40) (HM : MemP Ar nr Ad nd p w) (hn : ck4 p = true → (tr4 p).length ≤ 90000) :
    Calls Try.prog 12 #[.agg #[.int .i64 p.ir, .int .i64 p.glo, .int .i64 p.ghi, .slice Ar nr cr, .slice Ad nd cd, .int .i64 p.wr]] w fun e w' =>
      e = .returned (.tuple #[.int .i64 ((mn4 (ol4 p true) (ol4 p true).length : Nat) : Int), .int .i64 (op4 p true)]) ∧ Below w.heap.size w w' := by
  have HOP := Lib.hid (fun V (hV : Below w.heap.size w V) => open4_c Ar nr cr Ad nd cd p true V hnr hnd (HM.later hV) hn)
  have hr := HM.hr.1
  have hd := HM.hd.1
  have HK := Lib.hid (ol4_ok (p := p) (is := true) (by omega) (by omega))
  have hl := ol4_len (p := p) (is := true) hn
  unfold Op4 at HOP
  obtain ⟨z, hz⟩ : ∃ z, op4 p true = z := ⟨_, rfl⟩
  obtain ⟨l, hll⟩ : ∃ l, ol4 p true = l := ⟨_, rfl⟩
  rw [hz, hll] at HOP
  rw [hll] at HK hl
  rw [hz, hll]
  have HME := Lib.hid (mn4_le HK.out)
  obtain ⟨m, hm⟩ : ∃ m, l.length = m := ⟨_, rfl⟩
  rw [hm] at HOP hl HME
  have HXL := Lib.hid hm
  rw [hm]
  clear HM hr hd hn hz hll hm
  obtain ⟨ir, glo, ghi, wrg, rods, res⟩ := p
  simp only at HOP ⊢
  go_enter Try.func12, Try.ntmps12
  go_upto_region 1 with (fail)
  go_name_world X hX
  have BX : Below w.heap.size w X := (al1 hX).1
  have q0 := (al1_0 hX).2.1
  have l0 := (al1_0 hX).1
  clear hX
  go_upto_region 2 with (go_at_call 44; refine (HOP.out X BX).mono ?_; (rintro e w1 ⟨A, c, hs, rfl, hBs, hb1⟩); (have z1 := hb1.size); (have B1 := BX.trans (hb1.mono BX.size)); (have HBs := Lib.hid hBs); clear hb1 hBs)
  go_name_world Y0 hY
  have BY : Below w1.heap.size w1 Y0 := (al1 hY).1
  have HBY := Lib.hid (HBs.out.later BY)
  have B2 := B1.trans (BY.mono B1.size)
  clear hY BY HOP q0 l0 BX B1 z1 HBs
  go_wp2_with fail
  go_loopw [7, 18] (fun a i (wr : World) => ∃ k : Nat, k ≤ m ∧ a = .int .i64 ((mn4 l k : Nat) : Int) ∧ i = .int .i64 k ∧ Below Y0.heap.size Y0 wr) (fun a i _ => m - (intOf i).toNat)
  case atStart => exact ⟨0, by omega, by simp [mn4], by simp, Below.refl _ _⟩
  case round =>
    obtain ⟨k, hk, rfl, rfl, hbr⟩ := hrel
    have hw := B2.trans (hbr.mono B2.size)
    by_cases hkn : k < m
    · have hkB : decide ((k : Int) < m) = true := by simp; omega
      have vk : IntKind.i64.wrap ((k : Int) + 1) = (k : Int) + 1 := IntWalk.i64_in _ (by omega)
      obtain ⟨b, off, hA, hb, hc, hR⟩ := (HBY.out.later hbr).get hkn
      subst hA
      obtain ⟨x, hx⟩ : ∃ x, bxAt l k = x := ⟨_, rfl⟩
      have hxg : l[k]? = some x := by rw [← hx]; unfold bxAt; rw [List.getD_eq_getElem?_getD, List.getElem?_eq_getElem (by have := HXL.out; omega)]; rfl
      have hxo := HK.out x (List.mem_of_getElem? hxg)
      rw [hx] at hR
      obtain ⟨h, hh⟩ : ∃ h, hbAt hs k = h := ⟨_, rfl⟩
      rw [hh] at hR hc
      obtain ⟨-, -, -, rb, ra⟩ := hR
      have c0 := hc 0 _ rfl
      have c1 := hc 1 _ rfl
      have c2 := hc 2 _ rfl
      have c3 := hc 3 _ rfl
      have c4 := hc 4 _ rfl
      have c5 := hc 5 _ rfl
      have c6 := hc 6 _ rfl
      have c7 := hc 7 _ rfl
      rw [Nat.add_zero] at c0
      obtain ⟨⟨u0, u1, u2, u3⟩, bw, ⟨bA, bn, bc⟩, aw, ⟨aA, an, ac⟩⟩ := h
      simp only at c0 c1 c2 c3 c4 c5 c6 c7 rb ra
      have hbl : bn = x.b.2.length := rb.1.1.symm
      have hal : an = x.a.2.length := ra.1.1.symm
      have hbn : bn ≤ 99999 := by rw [hbl]; exact hxo.bl
      have han : an ≤ 99999 := by rw [hal]; exact hxo.al
      have HS := mn4_succ hxg
      rw [← hbl, ← hal] at HS
      have hp := prod9 hbn han
      have h1 := HME.out k (by omega)
      obtain ⟨s, hs⟩ : ∃ s, mn4 l k = s := ⟨_, rfl⟩
      obtain ⟨t, ht⟩ : ∃ t, bn * an = t := ⟨_, rfl⟩
      rw [hs] at HS h1 ⊢
      rw [ht] at HS hp
      have hti : (bn : Int) * (an : Int) = (t : Nat) := by rw [← ht]; simp
      have v1 : IntKind.i64.wrap ((t : Nat) : Int) = (t : Nat) := IntWalk.i64_in _ (by omega)
      have v2 : IntKind.i64.wrap ((s : Int) + (t : Nat)) = ((s + t : Nat) : Int) := by rw [IntWalk.i64_in _ (by omega)]; simp
      replace HS := Lib.hid HS
      clear hbl hal hxo hxg hx hh hc rb ra hs ht h1 hp
      go_upto_region 6 with (fail)
      go_name_world Y hY
      have BYr : Below wr.heap.size wr Y := (al1 hY).1
      have qY := (al1_0 hY).2.1
      have lY := (al1_0 hY).1
      have B3 := hbr.trans (BYr.mono hbr.size)
      clear hY c0 c1 c2 c3 c4 c5 c6 c7
      go_wp2_with fail
      go_roundw
      case rel => exact ⟨k + 1, by omega, by rw [HS.out]; simp, by go_num, B3⟩
      case measure => simp [intOf]; omega
    · obtain rfl : k = m := by omega
      have hkB : decide ((k : Int) < k) = false := by simp
      go_wp2_with fail
      exact bodyPost_ret (v := .tuple #[.int .i64 ((mn4 l k : Nat) : Int), .int .i64 z]) (by simp [results, Try.results12, go_sem]) rfl ⟨rfl, hw⟩

end Go.Proofs.Ytmmgkmdfecnkdaa

namespace Go.Proofs.Ytmmgkmdfecnkdaa
open Go.RowKit Go.Maps
open Go.Sort (grow)
set_option linter.unusedVariables false
set_option linter.unusedSimpArgs false

/-- a map reads as a set of numbers -/
def KeyD (D : DataW Unit) (f : Int → Bool) : Prop := IsMap D ∧ ∀ x, has D (.int .i64 x) = f x
theorem KeyD.made {f : Int → Bool} (h : ∀ x, f x = false) : KeyD (.map []) f := ⟨isMap_empty, fun x => by rw [h]; rfl⟩
theorem KeyD.put {D : DataW Unit} {f g : Int → Bool} (h : KeyD D f) {x : Int} {d : DataW Unit} (h2 : ∀ y, g y = (f y || y == x)) : KeyD (D.put (.int .i64 x) d) g := by
  refine ⟨h.1.put _ _, fun y => ?_⟩
  rw [h2]
  by_cases e : y = x
  · subst e; rw [has_put_same h.1 (keyLit_int y)]; simp
  · rw [has_put_other (fun h => e (by injection h)), h.2 y, show (y == x) = false by simpa using e, Bool.or_false]
theorem KeyD.congr {D : DataW Unit} {f g : Int → Bool} (h : KeyD D f) (h2 : ∀ y, g y = f y) : KeyD D g := ⟨h.1, fun y => by rw [h.2, h2]⟩
theorem keysK_c (b nn : Nat) (D0 : DataW Unit) (w : World) (hown : w.ownsMap Try.prog 3 (plainElem Try.prog 3) b nn D0) (f : Int → Bool) (hf : KeyD D0 f) (L : List Int) (hL : L.Pairwise (· < ·)) (hm : ∀ x, x ∈ L ↔ f x = true) (hn : nn ≤ 10000000000) :
    Calls Try.prog 46 #[.map (some b)] w fun e w' => ∃ A c, e = .returned (.slice A L.length c) ∧ IntsAt w' A L.length L ∧ Below w.heap.size w w' := by
  have hsz := hown.size_le
  refine (keys4_c b nn D0 _ w hown (by unfold maxLen; omega) (by omega)).mono ?_
  rintro e w' ⟨v, ss, rfl, hS, hrow, hb⟩
  have hk := keys_sorted hown Try.underlying3 hS hL (fun x => by rw [hm, hf.2])
  have hl : ss.length = L.length := by rw [← hk, List.length_mergeSort]
  rw [hk, hl, show (encZ : Int → Value) = Value.int .i64 from rfl, ← encI_map4] at hrow
  obtain ⟨A, c, rfl, -, hsl⟩ := SlAt.of_own (d := (0 : Int)) encI_len hrow rfl
  exact ⟨A, c, rfl, ints_iff.2 hsl, hb⟩
/-- all lengths of a rod in some truths -/
def rl4 (l : List Bu4) (q : Nat) : List Int := (ups 0 9999).filter fun n => l.any fun x => n == x.u.at_ q
def rk4 (l : List Bu4) (q k : Nat) (n : Int) : Bool := (l.take k).any fun x => n == x.u.at_ q
theorem rk4_succ {l : List Bu4} {q k : Nat} {x : Bu4} (h : l[k]? = some x) (n : Int) : rk4 l q (k + 1) n = (rk4 l q k n || n == x.u.at_ q) := by
  unfold rk4
  rw [List.take_add_one, h, List.any_append]
  simp
theorem at_b4 {a b c d : Int} {v4 v5 v6 v7 : Value} {q : Nat} (h : q < 4) : (#[Value.int .i64 a, .int .i64 b, .int .i64 c, .int .i64 d, v4, v5, v6, v7] : Array Value)[q]? = some (.int .i64 ((⟨a, b, c, d⟩ : W4).at_ q)) := by
  match q, h with
  | 0, _ => rfl
  | 1, _ => rfl
  | 2, _ => rfl
  | 3, _ => rfl
set_option maxRecDepth 100000 in
set_option maxHeartbeats 3200000 in
theorem lengthsOf4_c (A : Option Addr) (m c : Nat) (B0 base : Nat) (hs : List Hb) (l : List Bu4) (q : Nat) (hq : q < 4) (w : World) (hn : m ≤ 90000) (HB : BsAt4 B0 base w A m hs l) (hu : ∀ x ∈ l, OkW x.u) :
    Calls Try.prog 48 #[.slice A m c, .int .i64 (q : Nat)] w fun e w' => ∃ A c, e = .returned (.slice A (rl4 l q).length c) ∧ IntsAt w' A (rl4 l q).length (rl4 l q) ∧ Below w.heap.size w w' := by
  have HBI := Lib.hid HB
  have HXL := Lib.hid HB.xl
  have HU := Lib.hid hu
  have hmm := @run_makeMap Try.prog
  have HKK := Lib.hid (fun V D nn hown f hf hL hm hn => keysK_c w.heap.size nn D V hown f hf (rl4 l q) hL hm hn)
  have HRL : Hid ((rl4 l q).Pairwise (· < ·) ∧ ∀ x, x ∈ rl4 l q ↔ rk4 l q m x = true) := Lib.hid (by
    refine ⟨ups_pair.filter _, fun x => ?_⟩
    have ht : l.take m = l := List.take_of_length_le (by rw [HB.xl]; exact Nat.le_refl _)
    unfold rl4 rk4
    rw [ht, List.mem_filter, ups_mem]
    refine ⟨fun h => h.2, fun h => ⟨?_, h⟩⟩
    obtain ⟨y, hy, e⟩ := List.any_eq_true.1 h
    have e' : x = y.u.at_ q := by simpa using e
    have := hu y hy q hq
    omega)
  clear HB hu
  obtain ⟨L, hLL⟩ : ∃ L, rl4 l q = L := ⟨_, rfl⟩
  rw [hLL] at HKK HRL ⊢
  clear hLL
  go_enter Try.func48, Try.ntmps48
  go_upto_region 2 with (fail)
  go_name_world X hX
  have BX : Below w.heap.size w X := by rw [← hX]; (repeat first | with_reducible assumption | with_reducible exact Below.refl _ _ | (with_reducible refine Below.alloc ?_ ?side _; case side => (first | omega | (with_reducible exact Below.size (by assumption)) | (simp; done) | (simp; omega))) | (with_reducible refine Below.setCell ?_ ?side _; case side => (first | omega | (with_reducible exact Below.size (by assumption)) | (simp; done) | (simp; omega))) | with_reducible refine Below.drew ?_ | with_reducible refine below_drewN ?_ _ | (with_reducible refine below_step (by assumption) ?side ?_; case side => (first | omega | (with_reducible exact Below.size (by assumption)) | (simp; done) | (simp; omega))))
  have zX : X.heap.size = w.heap.size + 1 := by rw [← hX]; simp
  have HOW : Hid (X.ownsMap Try.prog 3 (plainElem (H := Unit) Try.prog 3) w.heap.size 0 (.map [])) := by rw [← hX]; exact Lib.hid (World.ownsMap_made _ _ _ _)
  clear hX hmm
  go_wp2_with fail
  go_loopw [11] (fun i (wr : World) => ∃ k : Nat, k ≤ m ∧ i = .int .i64 k ∧ Hid (Off (fun b => b = w.heap.size) X.heap.size X wr) ∧ Hid (∃ D, wr.ownsMap Try.prog 3 (plainElem (H := Unit) Try.prog 3) w.heap.size k D ∧ KeyD D (rk4 l q k))) (fun i _ => m - (intOf i).toNat)
  case atStart => exact ⟨0, by omega, by simp, Lib.hid .refl, Lib.hid ⟨_, HOW.out, .made fun x => rfl⟩⟩
  case round =>
    obtain ⟨k, hk, rfl, HOr, HDr⟩ := hrel
    have zr := HOr.out.size
    have hw := Lib.hid (HOr.out.below (m := w.heap.size) (fun b e => by omega) (by omega) BX)
    by_cases hkn : k < m
    · have hkB : decide ((k : Int) < m) = true := by simp; omega
      have vk : IntKind.i64.wrap ((k : Int) + 1) = (k : Int) + 1 := IntWalk.i64_in _ (by omega)
      obtain ⟨b, off, hA, hb, hc, hR⟩ := (HBI.out.later hw.out).get hkn
      subst hA
      obtain ⟨x, hx⟩ : ∃ x, bxAt l k = x := ⟨_, rfl⟩
      have hxg : l[k]? = some x := by rw [← hx]; unfold bxAt; rw [List.getD_eq_getElem?_getD, List.getElem?_eq_getElem (by have := HXL.out; omega)]; rfl
      have hxo := HU.out x (List.mem_of_getElem? hxg)
      rw [hx] at hR
      obtain ⟨h, hh⟩ : ∃ h, hbAt hs k = h := ⟨_, rfl⟩
      rw [hh] at hR hc
      have hru := hR.u
      have c0 := hc 0 _ rfl
      have c1 := hc 1 _ rfl
      have c2 := hc 2 _ rfl
      have c3 := hc 3 _ rfl
      have c4 := hc 4 _ rfl
      have c5 := hc 5 _ rfl
      have c6 := hc 6 _ rfl
      have c7 := hc 7 _ rfl
      rw [Nat.add_zero] at c0
      obtain ⟨⟨u0, u1, u2, u3⟩, bw, ⟨bA, bn, bc⟩, aw, ⟨aA, an, ac⟩⟩ := h
      simp only at c0 c1 c2 c3 c4 c5 c6 c7 hru
      have HS := Lib.hid (rk4_succ (q := q) hxg)
      have hxq := hxo q hq
      obtain ⟨v, hv⟩ : ∃ v, x.u.at_ q = v := ⟨_, rfl⟩
      rw [hv] at HS hxq
      have HV : Hid ((⟨u0, u1, u2, u3⟩ : W4).at_ q = v) := Lib.hid (by rw [hru]; exact hv)
      clear hv hru hR hc hh hx hxg hxo
      go_upto_region 5 with (fail)
      go_name_world Y hY
      have BYr : Below wr.heap.size wr Y := (al1 hY).1
      have qY : Y.cell? ⟨wr.heap.size, q, none⟩ = some (.int .i64 v) := ((al1_0 hY).2.1 q).trans (by rw [at_b4 hq, HV.out])
      have lY := (al1_0 hY).1
      obtain ⟨D, hD1, hD2⟩ := HDr.out
      have hOQ := ownsMap_of_block (BYr.block _ (by omega)) hD1
      have HD2 := Lib.hid hD2
      have hkey := key3 (x := v) (by omega)
      have HBY := Lib.hid BYr
      clear hY c0 c1 c2 c3 c4 c5 c6 c7 hD1 hD2 HDr BYr
      go_wp2_with (first
        | (at_lookup; refine wpList_lookup_own_int _ rfl _ _ 80 rfl 3 3 .i64 keyed3 Try.underlying80 Try.underlying3 (zero3i _) w.heap.size k _ rfl hOQ _ _ rfl hkey ?_; intro c hat hwc)
        | (at_mapUpdate; refine wpList_mapUpdate_own _ rfl _ _ _ 80 rfl 3 3 keyed3 Try.underlying80 _ w.heap.size k _ rfl hOQ (by unfold maxLen; omega) _ _ _ rfl rfl hkey _ [] (plainElem_int Try.underlying3 (wrap64_wf _)) ?_; intro w1 hown1 hgrow1)
        | fail)
      have HG1 := Lib.hid hgrow1
      have HO1 := Lib.hid hown1
      clear hgrow1 hown1 hat hwc hOQ
      go_roundw
      case rel =>
        refine ⟨k + 1, by omega, by go_num, Lib.hid ((HOr.out.then_below HBY.out (by omega)).grown HG1.out (fun g e => by cases e; exact .inl rfl) (Nat.le_refl _)), Lib.hid ⟨_, HO1.out, HD2.out.put HS.out⟩⟩
      case measure => simp [intOf]; omega
    · obtain rfl : k = m := by omega
      have hkB : decide ((k : Int) < k) = false := by simp
      obtain ⟨D, hD1, hD2⟩ := HDr.out
      have HK2 := Lib.hid (HKK.out wr D k hD1 _ hD2 HRL.out.1 HRL.out.2 (by omega))
      clear hD1 hD2 HKK
      go_wp2_with (go_at_call 46; refine HK2.out.mono ?_; (rintro e w2 ⟨A2, c2, rfl, hI, hb2⟩); (have B3 := hw.out.trans (hb2.mono hw.out.size)); have HI2 := Lib.hid hI; clear hb2 hI)
      go_ret
      exact ⟨A2, c2, rfl, HI2.out, B3⟩

end Go.Proofs.Ytmmgkmdfecnkdaa
