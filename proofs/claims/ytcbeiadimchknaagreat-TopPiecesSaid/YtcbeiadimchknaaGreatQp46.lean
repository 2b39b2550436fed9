/- Needed of orders (layer 8), where some plan surely makes the order. -/
import Derived.Test.YtcbeiadimchknaaGreatQp18
import Derived.Test.YtcbeiadimchknaaGreatQp37
import Derived.Test.YtcbeiadimchknaaGreatQp38
import Derived.Shelf.Abstract
import Derived.Laws.EntriesVeiled
import Derived.Handy
import Derived.Deep.DrawnRows
import Derived.Deep.DeepCutAuto
import Derived.BigRegionIn
import Derived.Shelf.RegionOpen
import Derived.Maps.Own
import Derived.Maps.OwnOps
import Derived.Maps.OwnSet
import Derived.Maps.Views
import Derived.WalkArith
import Derived.Shelf.SlIterI.Nil
import Derived.Shelf.SlIterI.Sorted
import Derived.Shelf.Sort.Plain
import Derived.Shelf.Slices.In.SortNone
import Derived.Ground.GgzProg
import Derived.Ground.Names2Prog
import Derived.Sort.OwnSortedInts
import Derived.RangeFuncGives
namespace Go.Proofs.YtcbeiadimchknaaGreat
open Go.RowKit Go.Shelf Go.Maps Go.Sort
open Go.Sort (grow)
set_option linter.unusedVariables false
set_option linter.unusedSimpArgs false

theorem encI_map8 (L : List Int) : L.flatMap encI = L.map (Value.int .i64) := by
  induction L with
  | nil => rfl
  | cons x l ih => rw [List.flatMap_cons, List.map_cons, ih]; rfl
set_option maxRecDepth 100000 in
set_option maxHeartbeats 3200000 in
theorem Needed8_c (A : Option Addr) (nr c : Nat) (B : Option Addr) (ns d : Nat) (C : Option Addr) (nk f : Nat) (shk : Int) (rs : List Rt8) (ss : List Sp) (ks : List Sk8) (w : World) (hnk : 0 < nk) (HA : RtsAt w A nr rs) (HB : SpsAt w B ns ss) (HC : SksAt w C nk ks) (ok : Ok8 nr ns nk rs ss ks shk) (F : Fw8) (hF : fwF (huL rs nr ss ns) ks shk nk ns = F) (hfo : F.fo = true) (L : List Int) (hL : L.Pairwise (· < ·)) (hm : ∀ x, x ∈ L ↔ F.nd x = true) :
    Calls Tryz.prog 14 #[.agg #[.slice A nr c, .slice B ns d, .slice C nk f, .int .i64 shk]] w fun e w' => ∃ v c', e = .returned (.tuple #[.slice v L.length c', .int .i64 0]) ∧ IntsAt w' v L.length L ∧ Below w.heap.size w w' := by
  have h7 := ok.kl
  have kAs0 := fun V (hV : Below w.heap.size w V) => ask8_c A nr c B ns d C nk f shk rs ss ks V hnk (HA.later hV) (HB.later hV) (HC.later hV) ok F hF
  rw [show fwE F = 0 by unfold fwE; rw [hfo]; rfl] at kAs0
  have kAs := Lib.hid kAs0
  have HM := Lib.hid hm
  have HL := Lib.hid hL
  have HFO := Lib.hid hfo
  clear HA HB HC ok hF kAs0 hm hL hfo
  refine (callsIn_wide (n := 6)).1 ?_
  refine callsIn_of_wp Tryz.func14 rfl trivial ?_ rfl
  simp only [Tryz.ntmps14, List.size_toArray, List.length_cons, List.length_nil, Nat.reduceAdd, Nat.reduceSub, Array.replicate_succ, Array.replicate_zero, List.push_toArray, List.append_toArray, List.nil_append, List.cons_append]
  gi_wp2
  have BX : Below w.heap.size w (w.alloc (.cells #[.slice A nr c, .slice B ns d, .slice C nk f, .int .i64 shk] 40)) := (Below.refl _ _).alloc (Nat.le_refl _) _
  refine ⟨trivial, callsIn_wide.2 ((kAs.out _ BX).mono ?_)⟩
  rintro e w1 ⟨PA, pc, mo, rfl, -, -, hmp, hb1⟩
  have B1 := BX.trans (hb1.mono BX.size)
  obtain ⟨b, D0, rfl, hown, hk⟩ := hmp HFO.out
  have HK := Lib.hid hk
  have HOW := Lib.hid hown
  have HB1 := Lib.hid B1
  clear hk hown B1 hb1 hmp BX
  obtain ⟨PL, hPL⟩ : ∃ x, (fwP F).length = x := ⟨_, rfl⟩
  rw [hPL]
  clear hPL
  gi_wp2
  obtain ⟨X, hX⟩ : ∃ X, w1.alloc (.cells #[.slice PA PL pc, .map (some b)] 86) = X := ⟨_, rfl⟩
  rw [hX]
  have hownX : X.ownsMap Tryz.prog 3 (plainElem (H := Unit) Tryz.prog 3) b nk D0 := own_at_block HOW.out (by rw [← hX]; exact Below.heap_alloc _ _ b HOW.out.lt)
  have HBX : Hid (Below w.heap.size w X) := by rw [← hX]; exact Lib.hid (HB1.out.alloc HB1.out.size _)
  have hbl := hownX.lt
  have hsz := hownX.size_le
  have HOX := Lib.hid hownX
  clear hX
  have hseq : SeqGives Fence.wide 2 Tryz.prog 70 #[.pointer (some ⟨X.heap.size, 0, none⟩)] encZ (fun ss => ss.Perm (intKeys D0)) (Maps.size D0) (X.alloc (.cells #[.map (some b)] 84)) :=
    AnyZI.keys_gives (ρ := keysA4_ren) { keysA4 with } Fence.wide _ trivial rfl (by omega) X.heap.size b nk D0 _ (by simp) (by simp) (by
      obtain ⟨es, clock, hb, Ft, hs, hD⟩ := hownX
      exact ⟨es, clock, (Below.heap_alloc _ _ b hbl).trans hb, Ft, hs, hD⟩)
  have cK : ∀ mb W, CallsIn Fence.wide 5 Tryz.prog 40 #[.map mb] W fun e w' => e = .returned (.func (.func 70) #[] #[.pointer (some ⟨W.heap.size, 0, none⟩)]) ∧ w' = W.alloc (.cells #[.map mb] 84) := fun mb W => AnyZI.keys_in keysA4 Fence.wide 5 trivial rfl mb W
  have cS := AnyZI.sorted_in sortedA4 Fence.wide 5 trivial trivial trivial trivial rfl (by omega) (sortsA4 _) (enters_of Tryz.func69 (by kernel_rfl) rfl) 70 #[.pointer (some ⟨X.heap.size, 0, none⟩)] trivial (enters_of Tryz.func70 (by kernel_rfl) rfl) _ _ (by unfold maxLen; omega) (by omega) _ hseq
  change CallsIn _ _ Tryz.prog 39 _ _ _ at cS
  refine ⟨trivial, (cK _ _).mono ?_⟩
  rintro e w' ⟨rfl, rfl⟩
  have CS := Lib.hid cS
  clear cS cK hseq hownX
  gi_wp2
  refine ⟨trivial, CS.out.mono ?_⟩
  rintro e w3 ⟨v, sv, rfl, hS, hrow, hnil, hb3⟩
  have hkk := keys_sorted HOX.out Tryz.underlying3 hS HL.out (fun x => by rw [HM.out, HK.out.2])
  have hll : sv.length = L.length := by rw [← hkk, List.length_mergeSort]
  rw [hkk, hll, show (encZ : Int → Value) = Value.int .i64 from rfl, ← encI_map8] at hrow
  obtain ⟨A3, c3, rfl, -, hsl⟩ := SlAt.of_own (d := (0 : Int)) encI_len hrow rfl
  have HSL := Lib.hid hsl
  have HB3 := Lib.hid (HBX.out.trans ((((Below.refl _ X).alloc (Nat.le_refl _) _).trans (hb3.mono (by simp))).mono HBX.out.size))
  clear hkk hll hrow hnil hb3 hsl hS CS
  gi_wp2
  exact bodyPost_ret (v := .tuple #[.slice A3 L.length c3, .int .i64 0]) (by simp [results, Tryz.results14, go_sem]) rfl ⟨A3, c3, rfl, ints_iff.2 HSL.out, HB3.out⟩

end Go.Proofs.YtcbeiadimchknaaGreat
