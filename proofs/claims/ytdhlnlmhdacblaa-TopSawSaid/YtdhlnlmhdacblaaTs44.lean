/- How long a cable is; Check of links and of the specification (layer 2); Check of links and of the specification (layer 2); Far of its statements; Check of the specification and of links, whole (layer 2). -/
import Derived.Test.YtdhlnlmhdacblaaTs05
import Derived.Handy
import Derived.Deep.DrawnRows
import Derived.Deep.DeepCutAuto
namespace Go.Proofs.Ytdhlnlmhdacblaa
open Go.RowKit
open Go.Sort (grow)
set_option linter.unusedVariables false
set_option linter.unusedSimpArgs false

set_option maxRecDepth 100000 in
set_option maxHeartbeats 1600000 in
theorem long2_c (A As : Option Addr) (n c ns cs : Nat) (wr : Int) (ds : List Dd) (w : World) (hn : n ≤ 12) (HD : DdsAt w A n ds) :
    Calls Try.prog 34 #[.agg #[.slice A n c, .slice As ns cs, .int .i64 wr]] w fun e w' => (∃ z : Int, e = .returned (.tuple #[.int .i64 (ln2 ds n), .int .i64 z])) ∧ Below w.heap.size w w' := by
  have HDI := Lib.hid HD
  clear HD
  go_enter Try.func34, Try.ntmps34
  go_wp2_with fail
  obtain ⟨W, hW⟩ : ∃ W, w.alloc (.cells #[.slice A n c, .slice As ns cs, .int .i64 wr] 42) = W := ⟨_, rfl⟩
  have B0 : Below w.heap.size w W := by rw [← hW]; exact (Below.refl _ _).alloc (Nat.le_refl _) _
  rw [hW]
  clear hW
  have z0 := B0.size
  go_loopw [2, 3, 9] (fun a b i (wr : World) => ∃ (k : Nat) (z : Int), k ≤ n ∧ a = .int .i64 (ln2 ds k) ∧ b = .int .i64 z ∧ i = .int .i64 k ∧ (0 ≤ z ∧ z ≤ k) ∧ Below w.heap.size w wr) (fun _ _ i _ => n - (intOf i).toNat)
  case atStart => exact ⟨0, 0, by omega, rfl, rfl, rfl, by omega, B0⟩
  case round =>
    obtain ⟨k, z, hk, rfl, rfl, rfl, hz, hb⟩ := hrel
    have zb := hb.size
    by_cases hlt : k < n
    · have hqB : decide ((k : Int) < n) = true := by simp; omega
      obtain ⟨b0, o0, rfl, hb0, y0, y1, y2, y3, y4⟩ := (HDI.out.later hb).get hlt
      have hbd := ln2_bd (ds := ds) k
      have hs := ln2_succ (ds := ds) (k := k)
      have hg := gr2_bd (d := ddAt ds k)
      obtain ⟨d, hd⟩ : ∃ d, ddAt ds k = d := ⟨_, rfl⟩
      rw [hd] at y0 y1 y2 y3 y4 hs hg
      have hgr := Lib.hid (fun V => grows_c d V)
      obtain ⟨g, hg2⟩ : ∃ g, gr2 d = g := ⟨_, rfl⟩
      obtain ⟨a, ha⟩ : ∃ g, ln2 ds k = g := ⟨_, rfl⟩
      obtain ⟨a', ha'⟩ : ∃ g, ln2 ds (k + 1) = g := ⟨_, rfl⟩
      rw [hg2] at hs hg hgr
      rw [ha] at hbd hs ⊢
      rw [ha'] at hs
      obtain ⟨mg, hmg⟩ : ∃ m : Int, (if 0 < g then g else 0) = m := ⟨_, rfl⟩
      have hmx : max (0 : Int) g = mg := by rw [← hmg]; split <;> omega
      have hw1 : IntKind.i64.wrap (a + g) = a' := by rw [hs]; exact IntWalk.i64_in _ (by omega)
      have hw2 : IntKind.i64.wrap (z + mg) = z + mg := IntWalk.i64_in _ (by omega)
      have HA := Lib.hid ha'
      have hmb : 0 ≤ mg ∧ mg ≤ 1 := by rw [← hmg]; split <;> omega
      clear ha ha' hg2 hd hs hg hbd
      go_upto_region 4 with (fail)
      go_name_world X hX
      have BX := (al1 hX).1
      have q0 := (al1_0 hX).2.1
      have lX := (al1_0 hX).1
      clear hX y0 y1 y2 y3 y4
      go_upto_region 5 with (go_at_call 55; refine (hgr.out _).mono ?_; rintro e w5 ⟨rfl, hb5⟩)
      have q5 := fun j => (hb5.cell (p := ⟨wr.heap.size, j, none⟩) lX).trans (q0 j)
      have z5 := hb5.size
      have l5 : wr.heap.size < w5.heap.size := by omega
      have B5 : Below w.heap.size w w5 := (hb.trans (BX.mono zb)).trans (hb5.mono (by have := BX.size; omega))
      clear q0 hb5
      go_upto_region 6 with (go_at_call 55; refine (hgr.out _).mono ?_; rintro e w6 ⟨rfl, hb6⟩)
      have B6 : Below w.heap.size w w6 := B5.trans (hb6.mono B5.size)
      clear q5 hb6
      go_wp2_with fail
      go_roundw
      case rel => exact ⟨k + 1, z + mg, by omega, by rw [HA.out], rfl, by go_num, by omega, B6⟩
      case measure => simp [intOf]; omega
    · obtain rfl : k = n := by omega
      have hqB : decide (((k : Nat) : Int) < k) = false := by simp
      go_wp2_with fail
      exact bodyPost_ret (v := .tuple #[.int .i64 (ln2 ds k), .int .i64 z]) (by simp [results, Try.results34, go_sem]) rfl ⟨⟨z, rfl⟩, hb⟩
/-- how long the cable is before each deed, and behind the last one -/
def lenL (ds : List Dd) (k : Nat) : List Int := (List.range (k + 1)).map (ln2 ds)
theorem lenL_len {ds : List Dd} {k : Nat} : (lenL ds k).length = k + 1 := by simp [lenL]
theorem lenL_succ {ds : List Dd} {k : Nat} : lenL ds (k + 1) = lenL ds k ++ [ln2 ds (k + 1)] := by
  unfold lenL
  rw [List.range_succ, List.map_append]; rfl
theorem lenL_at {ds : List Dd} {n k : Nat} (h : k ≤ n) : iAt (lenL ds n) k = ln2 ds k := by
  unfold iAt lenL
  rw [List.getD_eq_getElem?_getD, List.getElem?_map, List.getElem?_range (by omega)]; rfl
def LensRet (ds : List Dd) (n : Nat) (ok : Bool) (w : World) (e : Ending) (w' : World) : Prop :=
  ((ok = true ∧ ∃ A c, e = .returned (.tuple #[.slice A (n + 1) c, .bool true]) ∧ IntsAt w' A (n + 1) (lenL ds n)) ∨ (ok = false ∧ e = .returned (.tuple #[.slice none 0 0, .bool false]))) ∧ Below w.heap.size w w'
set_option maxRecDepth 100000 in
set_option maxHeartbeats 3200000 in
theorem refLengths_c (A : Option Addr) (n c : Nat) (ds : List Dd) (w : World) (hn : n ≤ 12) (HD : DdsAt w A n ds) :
    Calls Try.prog 30 #[.slice A n c] w (LensRet ds n (allN n fun k => dk2 (ddAt ds k) (ln2 ds k)) w) := by
  have HDI := Lib.hid HD
  obtain ⟨ok, hok⟩ : ∃ b, (allN n fun k => dk2 (ddAt ds k) (ln2 ds k)) = b := ⟨_, rfl⟩
  rw [hok]
  have HOK := Lib.hid hok
  clear HD hok
  go_enter Try.func30, Try.ntmps30
  go_wp2_with fail
  obtain ⟨W, hW⟩ : ∃ W, w.alloc (.cells #[.int .i64 0] 3) = W := ⟨_, rfl⟩
  have B0 : Below w.heap.size w W := by rw [← hW]; exact (Below.refl _ _).alloc (Nat.le_refl _) _
  have own0 : Hid (W.ownsRow w.heap.size 3 1 (.slice (some ⟨w.heap.size, 0, none⟩) 1 1) 1 ((lenL ds 0).flatMap encI)) := by
    rw [← hW]
    exact ⟨rfl, .inr ⟨w.heap.size, 1, #[.int .i64 0], rfl, Nat.le_refl _, heap_alloc_new _ _, Nat.le_refl _, by decide, rfl, rfl⟩⟩
  rw [hW]
  clear hW
  go_loopw [4, 5] (fun v i (wr : World) => ∃ k : Nat, k ≤ n ∧ i = .int .i64 k ∧ Hid (∀ j, j < k → dk2 (ddAt ds j) (ln2 ds j) = true) ∧ Hid (wr.ownsRow w.heap.size 3 1 v (k + 1) ((lenL ds k).flatMap encI)) ∧ Below w.heap.size w wr) (fun _ i _ => n - (intOf i).toNat)
  case atStart => exact ⟨0, by omega, rfl, Lib.hid (fun j hj => absurd hj (by omega)), own0, B0⟩
  case round =>
    obtain ⟨k, hk, rfl, HK, HO, hb⟩ := hrel
    have zb := hb.size
    by_cases hlt : k < n
    · have hqB : decide ((k : Int) < n) = true := by simp; omega
      obtain ⟨b0, o0, rfl, hb0, y0, y1, y2, y3, y4⟩ := (HDI.out.later hb).get hlt
      have hbd := ln2_bd (ds := ds) k
      have hs := ln2_succ (ds := ds) (k := k)
      have hg := gr2_bd (d := ddAt ds k)
      obtain ⟨g, c0, rfl, hg0, -⟩ := HO.out.form (by omega)
      have x0 := own_at HO.out lenL_len (show k < k + 1 by omega)
      rw [lenL_at (Nat.le_refl k)] at x0
      have hgl := (HO.out.lt g rfl).2
      have hdk := fun V => refDeed_c (ddAt ds k) (ln2 ds k) V (by omega)
      obtain ⟨okk, hokk⟩ : ∃ b, dk2 (ddAt ds k) (ln2 ds k) = b := ⟨_, rfl⟩
      rw [hokk] at hdk
      have HOKK := Lib.hid hokk
      have hgr : gr2 (ddAt ds k) = bif (ddAt ds k).wh == 1 then 1 else (bif (ddAt ds k).wh == 2 then -1 else 0) := rfl
      obtain ⟨d, hd⟩ : ∃ d, ddAt ds k = d := ⟨_, rfl⟩
      rw [hd] at y0 y1 y2 y3 y4 hs hg hdk hgr
      obtain ⟨a, ha⟩ : ∃ g, ln2 ds k = g := ⟨_, rfl⟩
      obtain ⟨a', ha'⟩ : ∃ g, ln2 ds (k + 1) = g := ⟨_, rfl⟩
      rw [ha] at hbd hs x0 hdk
      rw [ha'] at hs
      have HA := Lib.hid ha'
      replace hdk := Lib.hid hdk
      clear ha ha' hd hokk
      cases okk
      · have hall : Hid (ok = false) := Lib.hid (by rw [← HOK.out]; exact allN_no hlt HOKK.out)
        clear hs hg hbd hgr
        go_wp2_with (go_at_call 52; refine (hdk.out _).mono ?_; rintro e w5 ⟨rfl, hb5⟩)
        exact bodyPost_ret (v := .tuple #[.slice none 0 0, .bool false]) (by simp [results, Try.results30, go_sem]) rfl ⟨.inr ⟨hall.out, rfl⟩, hb.trans (hb5.mono zb)⟩
      · have hk1 := lenL_succ (ds := ds) (k := k)
        rw [HA.out] at hk1
        have HL1 := Lib.hid hk1
        clear hk1
        cases e1 : (d.wh == 1)
        · cases e2 : (d.wh == 2)
          · rw [e1, e2] at hgr
            have ha2 : a' = a := by rw [hgr] at hs; simpa using hs
            subst ha2
            clear hs hg hgr
            go_wp2_with (first | (go_at_call 52; refine (hdk.out _).mono ?_; rintro e w5 ⟨rfl, hb5⟩; have HO5 := Lib.hid (own_below HO.out hb5); have z5 := hb5.size; have u0 := (hb5.cell (p := ⟨b0, o0 + k * 5, none⟩) hb0).trans y0) | (at_builtin; go_must (refine wpList_append_T _ (d := (0 : Int)) rfl (.tmp 38) (.tmp 40) _ rfl w.heap.size _ 1 8 intE2 encI_len encI_one (.slice (some ⟨g, 0, none⟩) (k + 1) c0) (some g) (k + 1) (lenL ds k) rfl rfl ?_ _ 1 _ [a'] rfl ?_ ?_ ?_ ?_; (exact own_below HO5.out (by (repeat first | with_reducible assumption | with_reducible exact Below.refl _ _ | (with_reducible refine Below.alloc ?_ ?side _; case side => (first | omega | (with_reducible exact Below.size (by assumption)) | (simp; done) | (simp; omega))) | (with_reducible refine Below.setCell ?_ ?side _; case side => (first | omega | (with_reducible exact Below.size (by assumption)) | (simp; done) | (simp; omega))) | with_reducible refine Below.drew ?_ | with_reducible refine below_drewN ?_ _ | (with_reducible refine below_step (by assumption) ?side ?_; case side => (first | omega | (with_reducible exact Below.size (by assumption)) | (simp; done) | (simp; omega)))))); (exact sl_new encI_len (by simp) rfl rfl); (focus omega); (focus (simp only [World.size_alloc]; omega)); (intro v' w6 hown6 hg6 hat6; have hb6 : Below w.heap.size w w6 := (Below.grown (by (repeat first | with_reducible assumption | with_reducible exact Below.refl _ _ | (with_reducible refine Below.alloc ?_ ?side _; case side => (first | omega | (with_reducible exact Below.size (by assumption)) | (simp; done) | (simp; omega))) | (with_reducible refine Below.setCell ?_ ?side _; case side => (first | omega | (with_reducible exact Below.size (by assumption)) | (simp; done) | (simp; omega))) | with_reducible refine Below.drew ?_ | with_reducible refine below_drewN ?_ _ | (with_reducible refine below_step (by assumption) ?side ?_; case side => (first | omega | (with_reducible exact Below.size (by assumption)) | (simp; done) | (simp; omega))))) hg6 (by simp only [World.size_alloc]; omega) (own_ge HO5.out)); have HP := Lib.hid hown6; clear hown6 hg6 hat6))))
            go_roundw
            case rel => exact ⟨k + 1, by omega, by go_num, Lib.hid (fun j hj => (Nat.lt_succ_iff_lt_or_eq.1 hj).elim (HK.out j) fun e => by rw [e]; exact HOKK.out), by rw [HL1.out]; exact HP, hb6⟩
            case measure => simp [intOf]; omega
          · rw [e1, e2] at hgr
            have hw : IntKind.i64.wrap (a - 1) = a' := by rw [hgr] at hs; rw [IntWalk.i64_in _ (by omega), hs]; simp; omega
            clear hs hg hgr
            go_wp2_with (first | (go_at_call 52; refine (hdk.out _).mono ?_; rintro e w5 ⟨rfl, hb5⟩; have HO5 := Lib.hid (own_below HO.out hb5); have z5 := hb5.size; have u0 := (hb5.cell (p := ⟨b0, o0 + k * 5, none⟩) hb0).trans y0) | (at_builtin; go_must (refine wpList_append_T _ (d := (0 : Int)) rfl (.tmp 38) (.tmp 40) _ rfl w.heap.size _ 1 8 intE2 encI_len encI_one (.slice (some ⟨g, 0, none⟩) (k + 1) c0) (some g) (k + 1) (lenL ds k) rfl rfl ?_ _ 1 _ [a'] rfl ?_ ?_ ?_ ?_; (exact own_below HO5.out (by (repeat first | with_reducible assumption | with_reducible exact Below.refl _ _ | (with_reducible refine Below.alloc ?_ ?side _; case side => (first | omega | (with_reducible exact Below.size (by assumption)) | (simp; done) | (simp; omega))) | (with_reducible refine Below.setCell ?_ ?side _; case side => (first | omega | (with_reducible exact Below.size (by assumption)) | (simp; done) | (simp; omega))) | with_reducible refine Below.drew ?_ | with_reducible refine below_drewN ?_ _ | (with_reducible refine below_step (by assumption) ?side ?_; case side => (first | omega | (with_reducible exact Below.size (by assumption)) | (simp; done) | (simp; omega)))))); (exact sl_new encI_len (by simp) rfl rfl); (focus omega); (focus (simp only [World.size_alloc]; omega)); (intro v' w6 hown6 hg6 hat6; have hb6 : Below w.heap.size w w6 := (Below.grown (by (repeat first | with_reducible assumption | with_reducible exact Below.refl _ _ | (with_reducible refine Below.alloc ?_ ?side _; case side => (first | omega | (with_reducible exact Below.size (by assumption)) | (simp; done) | (simp; omega))) | (with_reducible refine Below.setCell ?_ ?side _; case side => (first | omega | (with_reducible exact Below.size (by assumption)) | (simp; done) | (simp; omega))) | with_reducible refine Below.drew ?_ | with_reducible refine below_drewN ?_ _ | (with_reducible refine below_step (by assumption) ?side ?_; case side => (first | omega | (with_reducible exact Below.size (by assumption)) | (simp; done) | (simp; omega))))) hg6 (by simp only [World.size_alloc]; omega) (own_ge HO5.out)); have HP := Lib.hid hown6; clear hown6 hg6 hat6))))
            go_roundw
            case rel => exact ⟨k + 1, by omega, by go_num, Lib.hid (fun j hj => (Nat.lt_succ_iff_lt_or_eq.1 hj).elim (HK.out j) fun e => by rw [e]; exact HOKK.out), by rw [HL1.out]; exact HP, hb6⟩
            case measure => simp [intOf]; omega
        · have e2 : (d.wh == 2) = false := by
            rw [beq_iff_eq] at e1
            rw [e1]; rfl
          rw [e1] at hgr
          have hw : IntKind.i64.wrap (a + 1) = a' := by rw [hgr] at hs; rw [IntWalk.i64_in _ (by omega), hs]; simp
          clear hs hg hgr
          go_wp2_with (first | (go_at_call 52; refine (hdk.out _).mono ?_; rintro e w5 ⟨rfl, hb5⟩; have HO5 := Lib.hid (own_below HO.out hb5); have z5 := hb5.size; have u0 := (hb5.cell (p := ⟨b0, o0 + k * 5, none⟩) hb0).trans y0) | (at_builtin; go_must (refine wpList_append_T _ (d := (0 : Int)) rfl (.tmp 38) (.tmp 40) _ rfl w.heap.size _ 1 8 intE2 encI_len encI_one (.slice (some ⟨g, 0, none⟩) (k + 1) c0) (some g) (k + 1) (lenL ds k) rfl rfl ?_ _ 1 _ [a'] rfl ?_ ?_ ?_ ?_; (exact own_below HO5.out (by (repeat first | with_reducible assumption | with_reducible exact Below.refl _ _ | (with_reducible refine Below.alloc ?_ ?side _; case side => (first | omega | (with_reducible exact Below.size (by assumption)) | (simp; done) | (simp; omega))) | (with_reducible refine Below.setCell ?_ ?side _; case side => (first | omega | (with_reducible exact Below.size (by assumption)) | (simp; done) | (simp; omega))) | with_reducible refine Below.drew ?_ | with_reducible refine below_drewN ?_ _ | (with_reducible refine below_step (by assumption) ?side ?_; case side => (first | omega | (with_reducible exact Below.size (by assumption)) | (simp; done) | (simp; omega)))))); (exact sl_new encI_len (by simp) rfl rfl); (focus omega); (focus (simp only [World.size_alloc]; omega)); (intro v' w6 hown6 hg6 hat6; have hb6 : Below w.heap.size w w6 := (Below.grown (by (repeat first | with_reducible assumption | with_reducible exact Below.refl _ _ | (with_reducible refine Below.alloc ?_ ?side _; case side => (first | omega | (with_reducible exact Below.size (by assumption)) | (simp; done) | (simp; omega))) | (with_reducible refine Below.setCell ?_ ?side _; case side => (first | omega | (with_reducible exact Below.size (by assumption)) | (simp; done) | (simp; omega))) | with_reducible refine Below.drew ?_ | with_reducible refine below_drewN ?_ _ | (with_reducible refine below_step (by assumption) ?side ?_; case side => (first | omega | (with_reducible exact Below.size (by assumption)) | (simp; done) | (simp; omega))))) hg6 (by simp only [World.size_alloc]; omega) (own_ge HO5.out)); have HP := Lib.hid hown6; clear hown6 hg6 hat6))))
          go_roundw
          case rel => exact ⟨k + 1, by omega, by go_num, Lib.hid (fun j hj => (Nat.lt_succ_iff_lt_or_eq.1 hj).elim (HK.out j) fun e => by rw [e]; exact HOKK.out), by rw [HL1.out]; exact HP, hb6⟩
          case measure => simp [intOf]; omega
    · obtain rfl : k = n := by omega
      have hqB : decide (((k : Nat) : Int) < k) = false := by simp
      have hall : Hid (ok = true) := Lib.hid (by rw [← HOK.out]; exact allN_iff.2 HK.out)
      obtain ⟨A3, c3, rfl, -, hsl⟩ := SlAt.of_own (d := (0 : Int)) encI_len HO.out lenL_len
      have HS := Lib.hid (ints_iff.2 hsl)
      clear hsl
      go_wp2_with fail
      exact bodyPost_ret (v := .tuple #[.slice A3 (k + 1) c3, .bool true]) (by simp [results, Try.results30, go_sem]) rfl ⟨.inl ⟨hall.out, A3, c3, rfl, HS.out⟩, hb⟩

end Go.Proofs.Ytdhlnlmhdacblaa

namespace Go.Proofs.Ytdhlnlmhdacblaa
open Go.RowKit
open Go.Sort (grow)
set_option linter.unusedVariables false
set_option linter.unusedSimpArgs false

theorem wb2 {F : FuncId} (h : ∀ n a b V, Calls Try.prog F #[.int .i64 n, .int .i64 a, .int .i64 b] V fun e V' => e = .returned (.bool (wn n a b)) ∧ V = V') :
    ∀ n a b V, Calls Try.prog F #[.int .i64 n, .int .i64 a, .int .i64 b] V fun e V' => e = .returned (.bool (wn n a b)) ∧ Below V.heap.size V V' :=
  fun n a b V => (h n a b V).mono fun e w' k => ⟨k.1, k.2 ▸ Below.refl _ _⟩
set_option maxRecDepth 100000 in
set_option maxHeartbeats 1600000 in
theorem refSight_c (s : Dd) (A : Option Addr) (n c : Nat) (ds : List Dd) (w : World) (hn : n ≤ 12) (HI : IntsAt w A (n + 1) (lenL ds n)) :
    Calls Try.prog 31 #[.agg #[.int .i64 s.wh, .int .i64 s.pl, .int .i64 s.fr, .int .i64 s.ba, .int .i64 s.sm], .slice A (n + 1) c] w fun e w' => e = .returned (.bool (sk2 s n ds)) ∧ Below w.heap.size w w' := by
  have hwi := wb2 fun n a b V => Within2_c n a b V
  obtain ⟨wh, pl, fr, ba, sm⟩ := s
  have hw1 : IntKind.i64.wrap (((n + 1 : Nat) : Int) - 1) = n := by rw [IntWalk.i64_in _ (by omega)]; omega
  have hw3 : IntKind.i64.wrap ((n : Int) + 1 - 1) = n := by rw [IntWalk.i64_in _ (by omega)]; omega
  unfold sk2
  simp only
  have c1 := hwi wh 0 n
  have c2 := hwi fr 0 1
  have c4 := hwi ba (-1) 99
  have c5 := hwi sm (-1) 99
  cases e1 : wn wh 0 n
  · rw [Bool.false_and]
    rw [e1] at c1
    replace c1 := Lib.hid c1
    clear HI hwi
    go_enter Try.func31, Try.ntmps31
    go_upto_region 1 with (fail)
    go_name_world X hX
    have BX : Below w.heap.size w X := (al1 hX).1
    have q0 := (al1_0 hX).2.1
    have l0 := (al1_0 hX).1
    clear hX
    have hcq := fun p : Regrown => (bcell (below_regrown X p.d p.os)).1
    refine wp_region_quiet_below (by kernel_rfl) (by kernel_rfl) ?_
    repeat (go_big_quiet_step ((go_at_call 29; first | (with_reducible exact Calls.regrown_of (c1.out _)) | (with_reducible exact Calls.regrown_of (c2.out _)) | (with_reducible exact Calls.regrown_of (c3.out _)) | (with_reducible exact Calls.regrown_of (c4.out _)) | (with_reducible exact Calls.regrown_of (c5.out _)))))
    refine wpQuiet_nil ?_
    intro wq hq
    obtain ⟨pq, hq⟩ := hq
    have hbq : Below X.heap.size X wq := by rw [hq]; exact below_regrown _ _ _
    clear hq hcq pq
    obtain ⟨hcq, hfq⟩ := bcell hbq
    have zq := hbq.size
    go_wp2_with fail
    go_ret
    exact ⟨rfl, BX.trans (hbq.mono BX.size)⟩
  · have h1 := wn_true.1 e1
    obtain ⟨q, rfl⟩ := Int.eq_ofNat_of_zero_le h1.1
    rw [e1] at c1
    replace c1 := Lib.hid c1
    rw [Int.toNat_natCast, Bool.true_and]
    obtain ⟨b, off, rfl, hb, x0⟩ := HI.get (show q < n + 1 by omega)
    rw [lenL_at (by omega)] at x0
    have hbd := ln2_bd (ds := ds) q
    obtain ⟨a, ha⟩ : ∃ a, ln2 ds q = a := ⟨_, rfl⟩
    rw [ha] at x0 hbd ⊢
    have hw2 : IntKind.i64.wrap (a - 1) = a - 1 := IntWalk.i64_in _ (by omega)
    have hq1 : q < n + 1 := by omega
    have hqB : decide ((q : Int) < ((n + 1 : Nat) : Int)) = true := by simp; omega
    have c3 := hwi pl 0 (a - 1)
    clear HI ha hbd hwi
    cases e2 : wn fr 0 1
    · rw [Bool.false_and]
      rw [e2] at c2
      replace c2 := Lib.hid c2
      go_enter Try.func31, Try.ntmps31
      go_upto_region 1 with (fail)
      go_name_world X hX
      have BX : Below w.heap.size w X := (al1 hX).1
      have q0 := (al1_0 hX).2.1
      have l0 := (al1_0 hX).1
      have xq := (BX.cell (p := ⟨b, off + q, none⟩) hb).trans x0
      have lb : b < X.heap.size := Nat.lt_of_lt_of_le hb BX.size
      clear x0 hX
      have hcq := fun p : Regrown => (bcell (below_regrown X p.d p.os)).1
      refine wp_region_quiet_below (by kernel_rfl) (by kernel_rfl) ?_
      repeat (go_big_quiet_step ((go_at_call 29; first | (with_reducible exact Calls.regrown_of (c1.out _)) | (with_reducible exact Calls.regrown_of (c2.out _)) | (with_reducible exact Calls.regrown_of (c3.out _)) | (with_reducible exact Calls.regrown_of (c4.out _)) | (with_reducible exact Calls.regrown_of (c5.out _)))))
      refine wpQuiet_nil ?_
      intro wq hq
      obtain ⟨pq, hq⟩ := hq
      have hbq : Below X.heap.size X wq := by rw [hq]; exact below_regrown _ _ _
      clear hq hcq pq
      obtain ⟨hcq, hfq⟩ := bcell hbq
      have zq := hbq.size
      go_wp2_with fail
      go_ret
      exact ⟨rfl, BX.trans (hbq.mono BX.size)⟩
    · rw [Bool.true_and]
      rw [e2] at c2
      replace c2 := Lib.hid c2
      cases e3 : wn pl 0 (a - 1)
      · rw [Bool.false_and]
        rw [e3] at c3
        replace c3 := Lib.hid c3
        go_enter Try.func31, Try.ntmps31
        go_upto_region 1 with (fail)
        go_name_world X hX
        have BX : Below w.heap.size w X := (al1 hX).1
        have q0 := (al1_0 hX).2.1
        have l0 := (al1_0 hX).1
        have xq := (BX.cell (p := ⟨b, off + q, none⟩) hb).trans x0
        have lb : b < X.heap.size := Nat.lt_of_lt_of_le hb BX.size
        clear x0 hX
        have hcq := fun p : Regrown => (bcell (below_regrown X p.d p.os)).1
        refine wp_region_quiet_below (by kernel_rfl) (by kernel_rfl) ?_
        repeat (go_big_quiet_step ((go_at_call 29; first | (with_reducible exact Calls.regrown_of (c1.out _)) | (with_reducible exact Calls.regrown_of (c2.out _)) | (with_reducible exact Calls.regrown_of (c3.out _)) | (with_reducible exact Calls.regrown_of (c4.out _)) | (with_reducible exact Calls.regrown_of (c5.out _)))))
        refine wpQuiet_nil ?_
        intro wq hq
        obtain ⟨pq, hq⟩ := hq
        have hbq : Below X.heap.size X wq := by rw [hq]; exact below_regrown _ _ _
        clear hq hcq pq
        obtain ⟨hcq, hfq⟩ := bcell hbq
        have zq := hbq.size
        go_wp2_with fail
        go_ret
        exact ⟨rfl, BX.trans (hbq.mono BX.size)⟩
      · rw [Bool.true_and]
        rw [e3] at c3
        replace c3 := Lib.hid c3
        cases e4 : wn ba (-1) 99
        · rw [Bool.false_and]
          rw [e4] at c4
          replace c4 := Lib.hid c4
          go_enter Try.func31, Try.ntmps31
          go_upto_region 1 with (fail)
          go_name_world X hX
          have BX : Below w.heap.size w X := (al1 hX).1
          have q0 := (al1_0 hX).2.1
          have l0 := (al1_0 hX).1
          have xq := (BX.cell (p := ⟨b, off + q, none⟩) hb).trans x0
          have lb : b < X.heap.size := Nat.lt_of_lt_of_le hb BX.size
          clear x0 hX
          have hcq := fun p : Regrown => (bcell (below_regrown X p.d p.os)).1
          refine wp_region_quiet_below (by kernel_rfl) (by kernel_rfl) ?_
          repeat (go_big_quiet_step ((go_at_call 29; first | (with_reducible exact Calls.regrown_of (c1.out _)) | (with_reducible exact Calls.regrown_of (c2.out _)) | (with_reducible exact Calls.regrown_of (c3.out _)) | (with_reducible exact Calls.regrown_of (c4.out _)) | (with_reducible exact Calls.regrown_of (c5.out _)))))
          refine wpQuiet_nil ?_
          intro wq hq
          obtain ⟨pq, hq⟩ := hq
          have hbq : Below X.heap.size X wq := by rw [hq]; exact below_regrown _ _ _
          clear hq hcq pq
          obtain ⟨hcq, hfq⟩ := bcell hbq
          have zq := hbq.size
          go_wp2_with fail
          go_ret
          exact ⟨rfl, BX.trans (hbq.mono BX.size)⟩
        · rw [Bool.true_and]
          rw [e4] at c4
          replace c4 := Lib.hid c4
          cases e5 : wn sm (-1) 99
          all_goals
            rw [e5] at c5
            replace c5 := Lib.hid c5
            go_enter Try.func31, Try.ntmps31
            go_upto_region 1 with (fail)
            go_name_world X hX
            have BX : Below w.heap.size w X := (al1 hX).1
            have q0 := (al1_0 hX).2.1
            have l0 := (al1_0 hX).1
            have xq := (BX.cell (p := ⟨b, off + q, none⟩) hb).trans x0
            have lb : b < X.heap.size := Nat.lt_of_lt_of_le hb BX.size
            clear x0 hX
            have hcq := fun p : Regrown => (bcell (below_regrown X p.d p.os)).1
            refine wp_region_quiet_below (by kernel_rfl) (by kernel_rfl) ?_
            repeat (go_big_quiet_step ((go_at_call 29; first | (with_reducible exact Calls.regrown_of (c1.out _)) | (with_reducible exact Calls.regrown_of (c2.out _)) | (with_reducible exact Calls.regrown_of (c3.out _)) | (with_reducible exact Calls.regrown_of (c4.out _)) | (with_reducible exact Calls.regrown_of (c5.out _)))))
            refine wpQuiet_nil ?_
            intro wq hq
            obtain ⟨pq, hq⟩ := hq
            have hbq : Below X.heap.size X wq := by rw [hq]; exact below_regrown _ _ _
            clear hq hcq pq
            obtain ⟨hcq, hfq⟩ := bcell hbq
            have zq := hbq.size
            go_wp2_with fail
            go_ret
            exact ⟨rfl, BX.trans (hbq.mono BX.size)⟩

end Go.Proofs.Ytdhlnlmhdacblaa

namespace Go.Proofs.Ytdhlnlmhdacblaa
open Go.RowKit
open Go.Sort (grow)
set_option linter.unusedVariables false
set_option linter.unusedSimpArgs false

def er2 (b : Bool) : Int := bif b then 0 else 20
theorem ck2_a {ds ss : List Dd} {nd ns : Nat} {wr : Int} (h : ¬ nd ≤ 12) : ck2 ds ss nd ns wr = false := by
  unfold ck2; rw [decide_eq_false h]; rfl
theorem ck2_b {ds ss : List Dd} {nd ns : Nat} {wr : Int} (h : ¬ ns ≤ 8) : ck2 ds ss nd ns wr = false := by
  unfold ck2; rw [decide_eq_false h]; simp
theorem ck2_c {ds ss : List Dd} {nd ns : Nat} {wr : Int} (h : wn wr 0 8 = false) : ck2 ds ss nd ns wr = false := by
  unfold ck2; rw [h]; simp
theorem ck2_d {ds ss : List Dd} {nd ns : Nat} {wr : Int} (h1 : nd ≤ 12) (h2 : ns ≤ 8) (h3 : wn wr 0 8 = true) :
    ck2 ds ss nd ns wr = (allN nd (fun k => dk2 (ddAt ds k) (ln2 ds k)) && allN ns (fun k => sk2 (ddAt ss k) nd ds)) := by
  unfold ck2; rw [decide_eq_true h1, decide_eq_true h2, h3]; rfl
set_option maxRecDepth 100000 in
set_option maxHeartbeats 1600000 in
theorem refCheck2_no (A As : Option Addr) (n c ns cs : Nat) (wr : Int) (ds ss : List Dd) (w : World) (hn : n ≤ 40) (hs : ns ≤ 40) (h : ¬ (n ≤ 12 ∧ ns ≤ 8 ∧ wn wr 0 8 = true)) :
    Calls Try.prog 12 #[.agg #[.slice A n c, .slice As ns cs, .int .i64 wr]] w fun e w' => e = .returned (.int .i64 (er2 (ck2 ds ss n ns wr))) ∧ Below w.heap.size w w' := by
  have c1 := fun V => Within2_c wr 0 8 V
  by_cases h1 : n ≤ 12
  · have hB1 : decide ((12 : Int) < n) = false := by simp; omega
    by_cases h2 : ns ≤ 8
    · have hB2 : decide ((8 : Int) < ns) = false := by simp; omega
      cases e1 : wn wr 0 8
      · rw [e1] at c1
        rw [ck2_c e1]
        replace c1 := Lib.hid c1
        go_enter Try.func12, Try.ntmps12
        go_wp2_with (go_at_call 29; refine (c1.out _).mono ?_; rintro e w' ⟨rfl, rfl⟩)
        go_ret
        exact ⟨rfl, by (repeat first | with_reducible assumption | with_reducible exact Below.refl _ _ | (with_reducible refine Below.alloc ?_ ?side _; case side => (first | omega | (with_reducible exact Below.size (by assumption)) | (simp; done) | (simp; omega))) | (with_reducible refine Below.setCell ?_ ?side _; case side => (first | omega | (with_reducible exact Below.size (by assumption)) | (simp; done) | (simp; omega))) | with_reducible refine Below.drew ?_ | with_reducible refine below_drewN ?_ _ | (with_reducible refine below_step (by assumption) ?side ?_; case side => (first | omega | (with_reducible exact Below.size (by assumption)) | (simp; done) | (simp; omega))))⟩
      · exact absurd ⟨h1, h2, e1⟩ h
    · have hB2 : decide ((8 : Int) < ns) = true := by simp; omega
      rw [ck2_b h2]
      go_enter Try.func12, Try.ntmps12
      go_wp2_with fail
      go_ret
      exact ⟨rfl, by (repeat first | with_reducible assumption | with_reducible exact Below.refl _ _ | (with_reducible refine Below.alloc ?_ ?side _; case side => (first | omega | (with_reducible exact Below.size (by assumption)) | (simp; done) | (simp; omega))) | (with_reducible refine Below.setCell ?_ ?side _; case side => (first | omega | (with_reducible exact Below.size (by assumption)) | (simp; done) | (simp; omega))) | with_reducible refine Below.drew ?_ | with_reducible refine below_drewN ?_ _ | (with_reducible refine below_step (by assumption) ?side ?_; case side => (first | omega | (with_reducible exact Below.size (by assumption)) | (simp; done) | (simp; omega))))⟩
  · have hB1 : decide ((12 : Int) < n) = true := by simp; omega
    rw [ck2_a h1]
    go_enter Try.func12, Try.ntmps12
    go_wp2_with fail
    go_ret
    exact ⟨rfl, by (repeat first | with_reducible assumption | with_reducible exact Below.refl _ _ | (with_reducible refine Below.alloc ?_ ?side _; case side => (first | omega | (with_reducible exact Below.size (by assumption)) | (simp; done) | (simp; omega))) | (with_reducible refine Below.setCell ?_ ?side _; case side => (first | omega | (with_reducible exact Below.size (by assumption)) | (simp; done) | (simp; omega))) | with_reducible refine Below.drew ?_ | with_reducible refine below_drewN ?_ _ | (with_reducible refine below_step (by assumption) ?side ?_; case side => (first | omega | (with_reducible exact Below.size (by assumption)) | (simp; done) | (simp; omega))))⟩
set_option maxRecDepth 100000 in
set_option maxHeartbeats 1600000 in
theorem linkCheck2_no (A As : Option Addr) (n c ns cs : Nat) (wr : Int) (ds ss : List Dd) (w : World) (hn : n ≤ 40) (hs : ns ≤ 40) (h : ¬ (n ≤ 12 ∧ ns ≤ 8 ∧ wn wr 0 8 = true)) :
    Calls Try.prog 33 #[.agg #[.slice A n c, .slice As ns cs, .int .i64 wr]] w fun e w' => e = .returned (.int .i64 (er2 (ck2 ds ss n ns wr))) ∧ Below w.heap.size w w' := by
  have c1 := fun V => within2_c wr 0 8 V
  by_cases h1 : n ≤ 12
  · have hB1 : decide ((12 : Int) < n) = false := by simp; omega
    by_cases h2 : ns ≤ 8
    · have hB2 : decide ((8 : Int) < ns) = false := by simp; omega
      cases e1 : wn wr 0 8
      · rw [e1] at c1
        rw [ck2_c e1]
        replace c1 := Lib.hid c1
        go_enter Try.func33, Try.ntmps33
        go_wp2_with (go_at_call 53; refine (c1.out _).mono ?_; rintro e w' ⟨rfl, rfl⟩)
        go_ret
        exact ⟨rfl, by (repeat first | with_reducible assumption | with_reducible exact Below.refl _ _ | (with_reducible refine Below.alloc ?_ ?side _; case side => (first | omega | (with_reducible exact Below.size (by assumption)) | (simp; done) | (simp; omega))) | (with_reducible refine Below.setCell ?_ ?side _; case side => (first | omega | (with_reducible exact Below.size (by assumption)) | (simp; done) | (simp; omega))) | with_reducible refine Below.drew ?_ | with_reducible refine below_drewN ?_ _ | (with_reducible refine below_step (by assumption) ?side ?_; case side => (first | omega | (with_reducible exact Below.size (by assumption)) | (simp; done) | (simp; omega))))⟩
      · exact absurd ⟨h1, h2, e1⟩ h
    · have hB2 : decide ((8 : Int) < ns) = true := by simp; omega
      rw [ck2_b h2]
      go_enter Try.func33, Try.ntmps33
      go_wp2_with fail
      go_ret
      exact ⟨rfl, by (repeat first | with_reducible assumption | with_reducible exact Below.refl _ _ | (with_reducible refine Below.alloc ?_ ?side _; case side => (first | omega | (with_reducible exact Below.size (by assumption)) | (simp; done) | (simp; omega))) | (with_reducible refine Below.setCell ?_ ?side _; case side => (first | omega | (with_reducible exact Below.size (by assumption)) | (simp; done) | (simp; omega))) | with_reducible refine Below.drew ?_ | with_reducible refine below_drewN ?_ _ | (with_reducible refine below_step (by assumption) ?side ?_; case side => (first | omega | (with_reducible exact Below.size (by assumption)) | (simp; done) | (simp; omega))))⟩
  · have hB1 : decide ((12 : Int) < n) = true := by simp; omega
    rw [ck2_a h1]
    go_enter Try.func33, Try.ntmps33
    go_wp2_with fail
    go_ret
    exact ⟨rfl, by (repeat first | with_reducible assumption | with_reducible exact Below.refl _ _ | (with_reducible refine Below.alloc ?_ ?side _; case side => (first | omega | (with_reducible exact Below.size (by assumption)) | (simp; done) | (simp; omega))) | (with_reducible refine Below.setCell ?_ ?side _; case side => (first | omega | (with_reducible exact Below.size (by assumption)) | (simp; done) | (simp; omega))) | with_reducible refine Below.drew ?_ | with_reducible refine below_drewN ?_ _ | (with_reducible refine below_step (by assumption) ?side ?_; case side => (first | omega | (with_reducible exact Below.size (by assumption)) | (simp; done) | (simp; omega))))⟩
set_option maxRecDepth 100000 in
set_option maxHeartbeats 3200000 in
theorem refCheck2_c (A As : Option Addr) (n c ns cs : Nat) (wr : Int) (ds ss : List Dd) (w : World) (hn : n ≤ 40) (hs : ns ≤ 40) (HD : DdsAt w A n ds) (HS : DdsAt w As ns ss) :
    Calls Try.prog 12 #[.agg #[.slice A n c, .slice As ns cs, .int .i64 wr]] w fun e w' => e = .returned (.int .i64 (er2 (ck2 ds ss n ns wr))) ∧ Below w.heap.size w w' := by
  by_cases h : n ≤ 12 ∧ ns ≤ 8 ∧ wn wr 0 8 = true
  case neg => exact refCheck2_no A As n c ns cs wr ds ss w hn hs h
  obtain ⟨h1, h2, e1⟩ := h
  have c1 := fun V => Within2_c wr 0 8 V
  rw [e1] at c1
  rw [ck2_d h1 h2 e1]
  replace c1 := Lib.hid c1
  have hle := Lib.hid (fun V (hV : Below w.heap.size w V) => refLengths_c A n c ds V h1 (HD.later hV))
  obtain ⟨ok, hok⟩ : ∃ b, (allN n fun k => dk2 (ddAt ds k) (ln2 ds k)) = b := ⟨_, rfl⟩
  rw [hok] at hle ⊢
  have HSI := Lib.hid HS
  have hB1 : decide ((12 : Int) < n) = false := by simp; omega
  have hB2 : decide ((8 : Int) < ns) = false := by simp; omega
  obtain ⟨R, hR⟩ : ∃ b, (ok && allN ns fun k => sk2 (ddAt ss k) n ds) = b := ⟨_, rfl⟩
  rw [hR]
  have HR := Lib.hid hR
  clear HD HS hok hR
  go_enter Try.func12, Try.ntmps12
  go_upto_region 3 with (go_at_call 29; refine (c1.out _).mono ?_; rintro e w' ⟨rfl, rfl⟩)
  go_name_world X hX
  have BX : Below w.heap.size w X := (al1 hX).1
  have q0 := (al1_0 hX).2.1
  have l0 := (al1_0 hX).1
  clear hX
  go_wp2_with fail
  refine (hle.out _ BX).mono ?_
  rintro e w1 ⟨(⟨rfl, A1, d1, rfl, hI⟩ | ⟨rfl, rfl⟩), hb1⟩
  · have HI := Lib.hid hI
    have Q1 := Lib.hid (fun j => (hb1.cell (p := ⟨w.heap.size, j, none⟩) l0).trans (q0 j))
    have B1 : Below w.heap.size w w1 := BX.trans (hb1.mono BX.size)
    have z1 := B1.size
    have l1 : w.heap.size < w1.heap.size := Nat.lt_of_lt_of_le l0 hb1.size
    have HOK : Hid ((allN ns fun k => sk2 (ddAt ss k) n ds) = R) := HR
    have cc := Q1.out
    clear hI hb1 q0
    go_wp2_with fail
    clear cc
    go_loopw [5] (fun i (wr : World) => ∃ k : Nat, k ≤ ns ∧ i = .int .i64 k ∧ Hid (∀ j, j < k → sk2 (ddAt ss j) n ds = true) ∧ Below w1.heap.size w1 wr) (fun i _ => ns - (intOf i).toNat)
    case atStart => exact ⟨0, by omega, rfl, Lib.hid (fun j hj => absurd hj (by omega)), Below.refl _ _⟩
    case round =>
      obtain ⟨k, hk, rfl, HK, hb⟩ := hrel
      have zb := hb.size
      have cc := fun j => (hb.cell (p := ⟨w.heap.size, j, none⟩) l1).trans (Q1.out j)
      have hbw : Below w.heap.size w wr := B1.trans (hb.mono z1)
      by_cases hlt : k < ns
      · have hqB : decide ((k : Int) < ns) = true := by simp; omega
        obtain ⟨b0, o0, rfl, hb0, y0, y1, y2, y3, y4⟩ := (HSI.out.later hbw).get hlt
        have hsk := refSight_c (ddAt ss k) A1 n d1 ds wr h1 (HI.out.later hb)
        obtain ⟨okk, hokk⟩ : ∃ b, sk2 (ddAt ss k) n ds = b := ⟨_, rfl⟩
        rw [hokk] at hsk
        have HOKK := Lib.hid hokk
        obtain ⟨d, hd⟩ : ∃ d, ddAt ss k = d := ⟨_, rfl⟩
        rw [hd] at y0 y1 y2 y3 y4 hsk
        replace hsk := Lib.hid hsk
        clear hd hokk
        cases okk
        · have hall : Hid (R = false) := Lib.hid (by rw [← HOK.out]; exact allN_no hlt HOKK.out)
          go_wp2_with (go_at_call 31; refine (hsk.out).mono ?_; rintro e w5 ⟨rfl, hb5⟩)
          go_ret
          exact ⟨by rw [hall.out]; rfl, hbw.trans (hb5.mono hbw.size)⟩
        · go_wp2_with (go_at_call 31; refine (hsk.out).mono ?_; rintro e w5 ⟨rfl, hb5⟩)
          go_roundw
          case rel => exact ⟨k + 1, by omega, by go_num, Lib.hid (fun j hj => (Nat.lt_succ_iff_lt_or_eq.1 hj).elim (HK.out j) fun e => by rw [e]; exact HOKK.out), hb.trans (hb5.mono zb)⟩
          case measure => simp [intOf]; omega
      · obtain rfl : k = ns := by omega
        have hqB : decide (((k : Nat) : Int) < k) = false := by simp
        have hall : Hid (R = true) := Lib.hid (by rw [← HOK.out]; exact allN_iff.2 HK.out)
        go_wp2_with fail
        go_ret
        exact ⟨by rw [hall.out]; rfl, hbw⟩
  · have HF : Hid (false = R) := HR
    go_wp2_with fail
    go_ret
    exact ⟨by rw [← HF.out]; rfl, BX.trans (hb1.mono BX.size)⟩

end Go.Proofs.Ytdhlnlmhdacblaa
