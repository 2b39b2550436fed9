/- lengthsOf of stretch (layer 4): all lengths of a rod in some truths; a map's keys, ascending. -/
import Derived.Test.YtjlibgledkdfiaaMa4
import Derived.Maps.OwnOps
import Derived.Maps.OwnSet
import Derived.Maps.Views
import Derived.WalkArith
namespace Go.Proofs.Ytjlibgledkdfiaa
open Go.RowKit Go.Maps
open Go.Sort (grow)
set_option linter.unusedVariables false

/-- a map reads as a set of numbers -/
def KeyD (D : DataW Unit) (f : Int → Bool) : Prop := IsMap D ∧ ∀ x, has D (.int .i64 x) = f x
theorem KeyD.made {f : Int → Bool} (h : ∀ x, f x = false) : KeyD (.map []) f := ⟨isMap_empty, fun x => by rw [h]; rfl⟩
theorem KeyD.put {D : DataW Unit} {f g : Int → Bool} (h : KeyD D f) {x : Int} {d : DataW Unit} (h2 : ∀ y, g y = (f y || y == x)) : KeyD (D.put (.int .i64 x) d) g := by
  refine ⟨h.1.put _ _, fun y => ?_⟩
  rw [h2]
  by_cases e : y = x
  · subst e; rw [has_put_same h.1 (keyLit_int y)]; simp
  · rw [has_put_other (fun h => e (by injection h)), h.2 y, show (y == x) = false by simpa using e, Bool.or_false]
theorem KeyD.congr {D : DataW Unit} {f g : Int → Bool} (h : KeyD D f) (h2 : ∀ y, g y = f y) : KeyD D g := ⟨h.1, fun y => by rw [h.2, h2]⟩
theorem keysK_c (b nn : Nat) (D0 : DataW Unit) (w : World) (hown : w.ownsMap Try.prog 3 (plainElem Try.prog 3) b nn D0) (f : Int → Bool) (hf : KeyD D0 f) (L : List Int) (hL : L.Pairwise (· < ·)) (hm : ∀ x, x ∈ L ↔ f x = true) (hn : nn ≤ 10000000000) :
    Calls Try.prog 58 #[.map (some b)] w fun e w' => ∃ A c, e = .returned (.slice A L.length c) ∧ IntsAt w' A L.length L ∧ Below w.heap.size w w' := by
  have hsz := hown.size_le
  refine (keys4_c b nn D0 _ w hown (by unfold maxLen; omega) (by omega)).mono ?_
  rintro e w' ⟨v, ss, rfl, hS, hrow, hb⟩
  have hk := keys_sorted hown Try.underlying3 hS hL (fun x => by rw [hm, hf.2])
  have hl : ss.length = L.length := by rw [← hk, List.length_mergeSort]
  rw [hk, hl, show (encZ : Int → Value) = Value.int .i64 from rfl, ← encI_map4] at hrow
  obtain ⟨A, c, rfl, -, hsl⟩ := SlAt.of_own (d := (0 : Int)) encI_len hrow rfl
  exact ⟨A, c, rfl, ints_iff.2 hsl, hb⟩
/-- all lengths of a rod in some truths -/
def rl4 (l : List Bu4) (q : Nat) : List Int := (ups 0 9999).filter fun n => l.any fun x => n == x.u.at_ q
def rk4 (l : List Bu4) (q k : Nat) (n : Int) : Bool := (l.take k).any fun x => n == x.u.at_ q
theorem rk4_succ {l : List Bu4} {q k : Nat} {x : Bu4} (h : l[k]? = some x) (n : Int) : rk4 l q (k + 1) n = (rk4 l q k n || n == x.u.at_ q) := by
  unfold rk4
  rw [List.take_add_one, h, List.any_append]
  simp
theorem at_b4 {a b c d : Int} {v4 v5 v6 v7 : Value} {q : Nat} (h : q < 4) : (#[Value.int .i64 a, .int .i64 b, .int .i64 c, .int .i64 d, v4, v5, v6, v7] : Array Value)[q]? = some (.int .i64 ((⟨a, b, c, d⟩ : W4).at_ q)) := by
  match q, h with
  | 0, _ => rfl
  | 1, _ => rfl
  | 2, _ => rfl
  | 3, _ => rfl
set_option maxRecDepth 100000 in
set_option maxHeartbeats 3200000 in
theorem lengthsOf4_c (A : Option Addr) (m c : Nat) (B0 base : Nat) (hs : List Hb) (l : List Bu4) (q : Nat) (hq : q < 4) (w : World) (hn : m ≤ 90000) (HB : BsAt4 B0 base w A m hs l) (hu : ∀ x ∈ l, OkW x.u) :
    Calls Try.prog 59 #[.slice A m c, .int .i64 (q : Nat)] w fun e w' => ∃ A c, e = .returned (.slice A (rl4 l q).length c) ∧ IntsAt w' A (rl4 l q).length (rl4 l q) ∧ Below w.heap.size w w' := by
  have HBI := Lib.hid HB
  have HXL := Lib.hid HB.xl
  have HU := Lib.hid hu
  have hmm := @run_makeMap Try.prog
  have HKK := Lib.hid (fun V D nn hown f hf hL hm hn => keysK_c w.heap.size nn D V hown f hf (rl4 l q) hL hm hn)
  have HRL : Hid ((rl4 l q).Pairwise (· < ·) ∧ ∀ x, x ∈ rl4 l q ↔ rk4 l q m x = true) := Lib.hid (by
    refine ⟨ups_pair.filter _, fun x => ?_⟩
    have ht : l.take m = l := List.take_of_length_le (by rw [HB.xl]; exact Nat.le_refl _)
    unfold rl4 rk4
    rw [ht, List.mem_filter, ups_mem]
    refine ⟨fun h => h.2, fun h => ⟨?_, h⟩⟩
    obtain ⟨y, hy, e⟩ := List.any_eq_true.1 h
    have e' : x = y.u.at_ q := by simpa using e
    have := hu y hy q hq
    omega)
  clear HB hu
  obtain ⟨L, hLL⟩ : ∃ L, rl4 l q = L := ⟨_, rfl⟩
  rw [hLL] at HKK HRL ⊢
  clear hLL
  go_enter Try.func59, Try.ntmps59
  go_upto_region 2 with (fail)
  go_name_world X hX
  have BX : Below w.heap.size w X := by rw [← hX]; (repeat first | with_reducible assumption | with_reducible exact Below.refl _ _ | (with_reducible refine Below.alloc ?_ ?side _; case side => (first | omega | (with_reducible exact Below.size (by assumption)) | (simp; done) | (simp; omega))) | (with_reducible refine Below.setCell ?_ ?side _; case side => (first | omega | (with_reducible exact Below.size (by assumption)) | (simp; done) | (simp; omega))) | with_reducible refine Below.drew ?_ | with_reducible refine below_drewN ?_ _ | (with_reducible refine below_step (by assumption) ?side ?_; case side => (first | omega | (with_reducible exact Below.size (by assumption)) | (simp; done) | (simp; omega))))
  have zX : X.heap.size = w.heap.size + 1 := by rw [← hX]; simp
  have HOW : Hid (X.ownsMap Try.prog 3 (plainElem (H := Unit) Try.prog 3) w.heap.size 0 (.map [])) := by rw [← hX]; exact Lib.hid (World.ownsMap_made _ _ _ _)
  clear hX hmm
  go_wp2_with fail
  go_loopw [11] (fun i (wr : World) => ∃ k : Nat, k ≤ m ∧ i = .int .i64 k ∧ Hid (Off (fun b => b = w.heap.size) X.heap.size X wr) ∧ Hid (∃ D, wr.ownsMap Try.prog 3 (plainElem (H := Unit) Try.prog 3) w.heap.size k D ∧ KeyD D (rk4 l q k))) (fun i _ => m - (intOf i).toNat)
  case atStart => exact ⟨0, by omega, by simp, Lib.hid .refl, Lib.hid ⟨_, HOW.out, .made fun x => rfl⟩⟩
  case round =>
    obtain ⟨k, hk, rfl, HOr, HDr⟩ := hrel
    have zr := HOr.out.size
    have hw := Lib.hid (HOr.out.below (m := w.heap.size) (fun b e => by omega) (by omega) BX)
    by_cases hkn : k < m
    · have hkB : decide ((k : Int) < m) = true := by simp; omega
      have vk : IntKind.i64.wrap ((k : Int) + 1) = (k : Int) + 1 := IntWalk.i64_in _ (by omega)
      obtain ⟨b, off, hA, hb, hc, hR⟩ := (HBI.out.later hw.out).get hkn
      subst hA
      obtain ⟨x, hx⟩ : ∃ x, bxAt l k = x := ⟨_, rfl⟩
      have hxg : l[k]? = some x := by rw [← hx]; unfold bxAt; rw [List.getD_eq_getElem?_getD, List.getElem?_eq_getElem (by have := HXL.out; omega)]; rfl
      have hxo := HU.out x (List.mem_of_getElem? hxg)
      rw [hx] at hR
      obtain ⟨h, hh⟩ : ∃ h, hbAt hs k = h := ⟨_, rfl⟩
      rw [hh] at hR hc
      have hru := hR.u
      have c0 := hc 0 _ rfl
      have c1 := hc 1 _ rfl
      have c2 := hc 2 _ rfl
      have c3 := hc 3 _ rfl
      have c4 := hc 4 _ rfl
      have c5 := hc 5 _ rfl
      have c6 := hc 6 _ rfl
      have c7 := hc 7 _ rfl
      rw [Nat.add_zero] at c0
      obtain ⟨⟨u0, u1, u2, u3⟩, bw, ⟨bA, bn, bc⟩, aw, ⟨aA, an, ac⟩⟩ := h
      simp only at c0 c1 c2 c3 c4 c5 c6 c7 hru
      have HS := Lib.hid (rk4_succ (q := q) hxg)
      have hxq := hxo q hq
      obtain ⟨v, hv⟩ : ∃ v, x.u.at_ q = v := ⟨_, rfl⟩
      rw [hv] at HS hxq
      have HV : Hid ((⟨u0, u1, u2, u3⟩ : W4).at_ q = v) := Lib.hid (by rw [hru]; exact hv)
      clear hv hru hR hc hh hx hxg hxo
      go_upto_region 5 with (fail)
      go_name_world Y hY
      have BYr : Below wr.heap.size wr Y := (al1 hY).1
      have qY : Y.cell? ⟨wr.heap.size, q, none⟩ = some (.int .i64 v) := ((al1_0 hY).2.1 q).trans (by rw [at_b4 hq, HV.out])
      have lY := (al1_0 hY).1
      obtain ⟨D, hD1, hD2⟩ := HDr.out
      have hOQ := ownsMap_of_block (BYr.block _ (by omega)) hD1
      have HD2 := Lib.hid hD2
      have hkey := key3 (x := v) (by omega)
      have HBY := Lib.hid BYr
      clear hY c0 c1 c2 c3 c4 c5 c6 c7 hD1 hD2 HDr BYr
      go_wp2_with (first
        | (at_lookup; refine wpList_lookup_own_int _ rfl _ _ 89 rfl 3 3 .i64 keyed3 Try.underlying89 Try.underlying3 (zero3i _) w.heap.size k _ rfl hOQ _ _ rfl hkey ?_; intro c hat hwc)
        | (at_mapUpdate; refine wpList_mapUpdate_own _ rfl _ _ _ 89 rfl 3 3 keyed3 Try.underlying89 _ w.heap.size k _ rfl hOQ (by unfold maxLen; omega) _ _ _ rfl rfl hkey _ [] (plainElem_int Try.underlying3 (wrap64_wf _)) ?_; intro w1 hown1 hgrow1)
        | fail)
      have HG1 := Lib.hid hgrow1
      have HO1 := Lib.hid hown1
      clear hgrow1 hown1 hat hwc hOQ
      go_roundw
      case rel =>
        refine ⟨k + 1, by omega, by go_num, Lib.hid ((HOr.out.then_below HBY.out (by omega)).grown HG1.out (fun g e => by cases e; exact .inl rfl) (Nat.le_refl _)), Lib.hid ⟨_, HO1.out, HD2.out.put HS.out⟩⟩
      case measure => simp [intOf]; omega
    · obtain rfl : k = m := by omega
      have hkB : decide ((k : Int) < k) = false := by simp
      obtain ⟨D, hD1, hD2⟩ := HDr.out
      have HK2 := Lib.hid (HKK.out wr D k hD1 _ hD2 HRL.out.1 HRL.out.2 (by omega))
      clear hD1 hD2 HKK
      go_wp2_with (go_at_call 58; refine HK2.out.mono ?_; (rintro e w2 ⟨A2, c2, rfl, hI, hb2⟩); (have B3 := hw.out.trans (hb2.mono hw.out.size)); have HI2 := Lib.hid hI; clear hb2 hI)
      go_ret
      exact ⟨A2, c2, rfl, HI2.out, B3⟩

end Go.Proofs.Ytjlibgledkdfiaa
