/- Best of stretch (layer 4): the least part with which it is sure. -/
import Derived.Test.YtjlibgledkdfiaaHo4
namespace Go.Proofs.Ytjlibgledkdfiaa
open Go.RowKit
open Go.Sort (grow)
set_option linter.unusedVariables false

def bst4 (l : List Bu4) : Option Nat := (List.range 1001).find? fun k => hd4 l (k : Nat) == 1
def bev4 (p : P4) : Int := bif op4 p true == 0 then ((bst4 (tr4 p)).map fun k => (k : Int)).getD 0 else 0
def bee4 (p : P4) : Int := bif op4 p true == 0 then (bif (bst4 (tr4 p)).isSome then 0 else 3) else op4 p true
theorem bst4_some {l : List Bu4} {k : Nat} (hk : k < 1001) (h1 : hd4 l k = 1) (h0 : ∀ j : Nat, j < k → hd4 l j ≠ 1) : bst4 l = some k := by
  unfold bst4
  rw [List.find?_eq_some_iff_append]
  refine ⟨by simpa using h1, List.range k, (List.range (1000 - k)).map (· + (k + 1)), ?_, ?_⟩
  · rw [show 1001 = k + ((1000 - k) + 1) by omega, List.range_add, List.range_succ_eq_map]
    simp [Function.comp_def]
    intro a _
    omega
  · intro a ha
    have := h0 a (List.mem_range.1 ha)
    simpa using this
theorem bst4_none {l : List Bu4} (h0 : ∀ j : Nat, j < 1001 → hd4 l j ≠ 1) : bst4 l = none := by
  unfold bst4
  rw [List.find?_eq_none]
  intro a ha
  have := h0 a (List.mem_range.1 ha)
  simpa using this
set_option maxRecDepth 100000 in
set_option maxHeartbeats 3200000 in
theorem best4_c (Ar : Option Addr) (nr cr : Nat) (Ad : Option Addr) (nd cd : Nat) (p : P4) (w : World) (hnr : nr ≤ 40) (hnd : nd ≤ 40) (HM : MemP Ar nr Ad nd p w) (hn : (tr4 p).length ≤ 90000) :
    Calls Try.prog 17 #[.agg #[.int .i64 p.ir, .int .i64 p.glo, .int .i64 p.ghi, .slice Ar nr cr, .slice Ad nd cd, .int .i64 p.wr]] w fun e w' =>
      e = .returned (.tuple #[.int .i64 (bev4 p), .int .i64 (bee4 p)]) ∧ Below w.heap.size w w' := by
  have HOP := Lib.hid (fun V (hV : Below w.heap.size w V) => open4_c Ar nr cr Ad nd cd p true V hnr hnd (HM.later hV) hn)
  have hr := HM.hr.1
  have hd := HM.hd.1
  have HK := Lib.hid (ol4_ok (p := p) (is := true) (by omega) (by omega))
  have hl := ol4_len (p := p) (is := true) hn
  have HH : Hid (op4 p true = 0 → ol4 p true = tr4 p) := Lib.hid (fun h => (op4_ol h).2.2.1)
  unfold bev4 bee4
  unfold Op4 at HOP
  obtain ⟨z, hz⟩ : ∃ z, op4 p true = z := ⟨_, rfl⟩
  obtain ⟨l, hll⟩ : ∃ l, ol4 p true = l := ⟨_, rfl⟩
  rw [hz, hll] at HOP
  rw [hz, hll] at HH
  rw [hll] at HK hl
  rw [hz]
  obtain ⟨m, hm⟩ : ∃ m, l.length = m := ⟨_, rfl⟩
  rw [hm] at HOP hl
  have HHD := Lib.hid (fun (k : Nat) (hp : k < 1001) A c hs base V (HB : BsAt4 0 base V A m hs l) => holds4_c A m c 0 base hs l (k : Int) V hl (by omega) HB HK.out)
  clear HM hr hd hn hz hll hm hl HK
  obtain ⟨ts, hts⟩ : ∃ ts, tr4 p = ts := ⟨_, rfl⟩
  rw [hts] at HH ⊢
  clear hts
  obtain ⟨ir, glo, ghi, wrg, rods, res⟩ := p
  simp only at HOP ⊢
  obtain ⟨v, hv⟩ : ∃ v : Int, (bif z == 0 then ((bst4 ts).map fun k => (k : Int)).getD 0 else 0) = v := ⟨_, rfl⟩
  obtain ⟨ee, hee⟩ : ∃ v : Int, (bif z == 0 then (bif (bst4 ts).isSome then 0 else 3) else z) = v := ⟨_, rfl⟩
  rw [hv, hee]
  replace hv := Lib.hid hv
  replace hee := Lib.hid hee
  go_enter Try.func17, Try.ntmps17
  go_upto_region 1 with (fail)
  go_name_world X hX
  have BX : Below w.heap.size w X := (al1 hX).1
  have q0 := (al1_0 hX).2.1
  have l0 := (al1_0 hX).1
  clear hX
  go_upto_region 2 with (go_at_call 49; refine (HOP.out X BX).mono ?_; (rintro e w1 ⟨A, c, hs, rfl, hBs, hb1⟩); (have z1 := hb1.size); (have B1 := BX.trans (hb1.mono BX.size)); (have HBs := Lib.hid hBs); clear hb1 hBs)
  go_name_world Y hY
  have BY : Below w1.heap.size w1 Y := (al1 hY).1
  have HBY := Lib.hid (HBs.out.later BY)
  have B2 := B1.trans (BY.mono B1.size)
  clear hY BY
  by_cases hz0 : z = 0
  · subst hz0
    obtain rfl := HH.out rfl
    simp only [beq_self_eq_true, cond_true] at hv hee
    clear HH HOP
    have HHC := Lib.hid (fun (k : Nat) (hp : k < 1001) V (hV : Below Y.heap.size Y V) => HHD.out k hp A c hs _ V (HBY.out.later hV))
    clear HHD
    go_wp2_with fail
    go_loopw [7, 17] (fun a i (wr : World) => ∃ k : Nat, k ≤ 1001 ∧ i = .int .i64 k ∧ Hid (∀ j : Nat, j < k → hd4 l j ≠ 1) ∧ Below Y.heap.size Y wr) (fun a i _ => 1001 - (intOf i).toNat)
    case atStart => exact ⟨0, by omega, by simp, Lib.hid (fun j hj => absurd hj (by omega)), Below.refl _ _⟩
    case round =>
      obtain ⟨k, hk, rfl, H0, hbr⟩ := hrel
      have hw := B2.trans (hbr.mono B2.size)
      by_cases hkn : k < 1001
      · have hkB : decide ((k : Int) < 1001) = true := by simp; omega
        have vk : IntKind.i64.wrap ((k : Int) + 1) = (k : Int) + 1 := IntWalk.i64_in _ (by omega)
        have HC := Lib.hid (HHC.out k hkn wr hbr)
        obtain ⟨x, hx⟩ : ∃ x, hd4 l (k : Int) = x := ⟨_, rfl⟩
        rw [hx] at HC
        by_cases h1 : x = 1
        · subst h1
          have e := bst4_some hkn hx H0.out
          simp only [e, Option.isSome_some, cond_true] at hv hee
          have e1 := hv.out
          have e2 := hee.out
          subst e1 e2
          clear e hx
          go_wp2_with (go_at_call 52; refine HC.out.mono ?_; (rintro e w2 ⟨rfl, hb2⟩); (have B3 := hw.trans (hb2.mono hw.size)); clear hb2)
          exact bodyPost_ret (v := .tuple #[.int .i64 (k : Int), .int .i64 0]) (by simp [results, Try.results17, go_sem]) rfl ⟨rfl, B3⟩
        · have hx1 : (x == 1) = false := by simpa using h1
          have HH1 : Hid (∀ j : Nat, j < k + 1 → hd4 l j ≠ 1) := Lib.hid (fun j hj => by
            rcases Nat.lt_succ_iff_lt_or_eq.1 hj with h | rfl
            · exact H0.out j h
            · rw [hx]; exact h1)
          clear hx
          go_wp2_with (go_at_call 52; refine HC.out.mono ?_; (rintro e w2 ⟨rfl, hb2⟩); (have B3 := hbr.trans (hb2.mono hbr.size)); clear hb2)
          go_roundw
          case rel => exact ⟨k + 1, by omega, by go_num, HH1, B3⟩
          case measure => simp [intOf]; omega
      · obtain rfl : k = 1001 := by omega
        have e := bst4_none H0.out
        simp only [e, Option.isSome_none, cond_false] at hv hee
        have e1 := hv.out
        have e2 := hee.out
        subst e1 e2
        clear e
        go_wp2_with fail
        exact bodyPost_ret (v := .tuple #[.int .i64 0, .int .i64 3]) (by simp [results, Try.results17, go_sem]) rfl ⟨rfl, hw⟩
  · have hzb : (z == 0) = false := by simpa using hz0
    have hzn : (z != 0) = true := by simpa using hz0
    rw [hzb] at hv hee
    simp only [cond_false] at hv hee
    have e1 := hv.out
    have e2 := hee.out
    subst e1 e2
    clear HHD HH
    go_wp2_with fail
    exact bodyPost_ret (v := .tuple #[.int .i64 0, .int .i64 z]) (by simp [results, Try.results17, go_sem]) rfl ⟨rfl, B2⟩

end Go.Proofs.Ytjlibgledkdfiaa
