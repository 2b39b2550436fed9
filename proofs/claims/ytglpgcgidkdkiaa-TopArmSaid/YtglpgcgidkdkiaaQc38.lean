/- Many of stretch (layer 4): the number of truths; lengthsOf of stretch (layer 4): all lengths of a rod in some truths; a map's keys, ascending; Rods of stretch (layer 4): all lengths of a rod; Fewest of stretch (layer 4): the least number of readings that are not right. -/
import Derived.Test.YtglpgcgidkdkiaaQc37
import Derived.Maps.OwnOps
import Derived.Maps.OwnSet
import Derived.Maps.Views
import Derived.WalkArith
import Derived.BigRegionIn
import Derived.Shelf.RegionOpen
import Derived.Deep.DrawnRows
import Derived.Deep.DeepCutAuto
import Derived.Test.YtglpgcgidkdkiaaQc34
import Derived.Test.YtglpgcgidkdkiaaQc22
namespace Go.Proofs.Ytglpgcgidkdkiaa
open Go.RowKit
open Go.Sort (grow)
set_option linter.unusedVariables false
set_option linter.unusedSimpArgs false

def mn4 (l : List Bu4) (k : Nat) : Nat := ((l.take k).map fun x => x.b.2.length * x.a.2.length).sum
theorem mn4_succ {l : List Bu4} {k : Nat} {x : Bu4} (h : l[k]? = some x) : mn4 l (k + 1) = mn4 l k + x.b.2.length * x.a.2.length := by
  unfold mn4
  rw [List.take_add_one, h]
  simp
theorem prod9 {a b : Nat} (ha : a ≤ 99999) (hb : b ≤ 99999) : a * b ≤ 9999800001 := Nat.le_trans (Nat.mul_le_mul ha hb) (by decide)
theorem mn4_le {l : List Bu4} (h : ∀ x ∈ l, OkB x) : ∀ k, k ≤ l.length → mn4 l k ≤ 9999800001 * k
  | 0, _ => by simp [mn4]
  | k + 1, hk => by
    have hx : l[k]? = some (l[k]'(by omega)) := List.getElem?_eq_getElem (by omega)
    have := mn4_le h k (by omega)
    have ho := h _ (List.mem_of_getElem? hx)
    rw [mn4_succ hx]
    have := prod9 ho.bl ho.al
    omega
set_option maxRecDepth 100000 in
set_option maxHeartbeats 3200000 in
theorem many4_c (Ar : Option Addr) (nr cr : Nat) (Ad : Option Addr) (nd cd : Nat) (p : P4) (w : World) (hnr : nr ≤ 40) (hnd : nd ≤ 40) (HM : MemP Ar nr Ad nd p w) (hn : ck4 p = true → (tr4 p).length ≤ 90000) :
    Calls Try.prog 29 #[.agg #[.int .i64 p.ir, .int .i64 p.glo, .int .i64 p.ghi, .slice Ar nr cr, .slice Ad nd cd, .int .i64 p.wr]] w fun e w' =>
      e = .returned (.tuple #[.int .i64 ((mn4 (ol4 p true) (ol4 p true).length : Nat) : Int), .int .i64 (op4 p true)]) ∧ Below w.heap.size w w' := by
  have HOP := Lib.hid (fun V (hV : Below w.heap.size w V) => open4_c Ar nr cr Ad nd cd p true V hnr hnd (HM.later hV) hn)
  have hr := HM.hr.1
  have hd := HM.hd.1
  have HK := Lib.hid (ol4_ok (p := p) (is := true) (by omega) (by omega))
  have hl := ol4_len (p := p) (is := true) hn
  unfold Op4 at HOP
  obtain ⟨z, hz⟩ : ∃ z, op4 p true = z := ⟨_, rfl⟩
  obtain ⟨l, hll⟩ : ∃ l, ol4 p true = l := ⟨_, rfl⟩
  rw [hz, hll] at HOP
  rw [hll] at HK hl
  rw [hz, hll]
  have HME := Lib.hid (mn4_le HK.out)
  obtain ⟨m, hm⟩ : ∃ m, l.length = m := ⟨_, rfl⟩
  rw [hm] at HOP hl HME
  have HXL := Lib.hid hm
  rw [hm]
  clear HM hr hd hn hz hll hm
  obtain ⟨ir, glo, ghi, wrg, rods, res⟩ := p
  simp only at HOP ⊢
  go_enter Try.func29, Try.ntmps29
  go_upto_region 1 with (fail)
  go_name_world X hX
  have BX : Below w.heap.size w X := (al1 hX).1
  have q0 := (al1_0 hX).2.1
  have l0 := (al1_0 hX).1
  clear hX
  go_upto_region 2 with (go_at_call 31; refine (HOP.out X BX).mono ?_; (rintro e w1 ⟨A, c, hs, rfl, hBs, hb1⟩); (have z1 := hb1.size); (have B1 := BX.trans (hb1.mono BX.size)); (have HBs := Lib.hid hBs); clear hb1 hBs)
  go_name_world Y0 hY
  have BY : Below w1.heap.size w1 Y0 := (al1 hY).1
  have HBY := Lib.hid (HBs.out.later BY)
  have B2 := B1.trans (BY.mono B1.size)
  clear hY BY HOP q0 l0 BX B1 z1 HBs
  go_wp2_with fail
  go_loopw [7, 18] (fun a i (wr : World) => ∃ k : Nat, k ≤ m ∧ a = .int .i64 ((mn4 l k : Nat) : Int) ∧ i = .int .i64 k ∧ Below Y0.heap.size Y0 wr) (fun a i _ => m - (intOf i).toNat)
  case atStart => exact ⟨0, by omega, by simp [mn4], by simp, Below.refl _ _⟩
  case round =>
    obtain ⟨k, hk, rfl, rfl, hbr⟩ := hrel
    have hw := B2.trans (hbr.mono B2.size)
    by_cases hkn : k < m
    · have hkB : decide ((k : Int) < m) = true := by simp; omega
      have vk : IntKind.i64.wrap ((k : Int) + 1) = (k : Int) + 1 := IntWalk.i64_in _ (by omega)
      obtain ⟨b, off, hA, hb, hc, hR⟩ := (HBY.out.later hbr).get hkn
      subst hA
      obtain ⟨x, hx⟩ : ∃ x, bxAt l k = x := ⟨_, rfl⟩
      have hxg : l[k]? = some x := by rw [← hx]; unfold bxAt; rw [List.getD_eq_getElem?_getD, List.getElem?_eq_getElem (by have := HXL.out; omega)]; rfl
      have hxo := HK.out x (List.mem_of_getElem? hxg)
      rw [hx] at hR
      obtain ⟨h, hh⟩ : ∃ h, hbAt hs k = h := ⟨_, rfl⟩
      rw [hh] at hR hc
      obtain ⟨-, -, -, rb, ra⟩ := hR
      have c0 := hc 0 _ rfl
      have c1 := hc 1 _ rfl
      have c2 := hc 2 _ rfl
      have c3 := hc 3 _ rfl
      have c4 := hc 4 _ rfl
      have c5 := hc 5 _ rfl
      have c6 := hc 6 _ rfl
      have c7 := hc 7 _ rfl
      rw [Nat.add_zero] at c0
      obtain ⟨⟨u0, u1, u2, u3⟩, bw, ⟨bA, bn, bc⟩, aw, ⟨aA, an, ac⟩⟩ := h
      simp only at c0 c1 c2 c3 c4 c5 c6 c7 rb ra
      have hbl : bn = x.b.2.length := rb.1.1.symm
      have hal : an = x.a.2.length := ra.1.1.symm
      have hbn : bn ≤ 99999 := by rw [hbl]; exact hxo.bl
      have han : an ≤ 99999 := by rw [hal]; exact hxo.al
      have HS := mn4_succ hxg
      rw [← hbl, ← hal] at HS
      have hp := prod9 hbn han
      have h1 := HME.out k (by omega)
      obtain ⟨s, hs⟩ : ∃ s, mn4 l k = s := ⟨_, rfl⟩
      obtain ⟨t, ht⟩ : ∃ t, bn * an = t := ⟨_, rfl⟩
      rw [hs] at HS h1 ⊢
      rw [ht] at HS hp
      have hti : (bn : Int) * (an : Int) = (t : Nat) := by rw [← ht]; simp
      have v1 : IntKind.i64.wrap ((t : Nat) : Int) = (t : Nat) := IntWalk.i64_in _ (by omega)
      have v2 : IntKind.i64.wrap ((s : Int) + (t : Nat)) = ((s + t : Nat) : Int) := by rw [IntWalk.i64_in _ (by omega)]; simp
      replace HS := Lib.hid HS
      clear hbl hal hxo hxg hx hh hc rb ra hs ht h1 hp
      go_upto_region 6 with (fail)
      go_name_world Y hY
      have BYr : Below wr.heap.size wr Y := (al1 hY).1
      have qY := (al1_0 hY).2.1
      have lY := (al1_0 hY).1
      have B3 := hbr.trans (BYr.mono hbr.size)
      clear hY c0 c1 c2 c3 c4 c5 c6 c7
      go_wp2_with fail
      go_roundw
      case rel => exact ⟨k + 1, by omega, by rw [HS.out]; simp, by go_num, B3⟩
      case measure => simp [intOf]; omega
    · obtain rfl : k = m := by omega
      have hkB : decide ((k : Int) < k) = false := by simp
      go_wp2_with fail
      exact bodyPost_ret (v := .tuple #[.int .i64 ((mn4 l k : Nat) : Int), .int .i64 z]) (by simp [results, Try.results29, go_sem]) rfl ⟨rfl, hw⟩

end Go.Proofs.Ytglpgcgidkdkiaa

namespace Go.Proofs.Ytglpgcgidkdkiaa
open Go.RowKit Go.Maps
open Go.Sort (grow)
set_option linter.unusedVariables false
set_option linter.unusedSimpArgs false

/-- a map reads as a set of numbers -/
def KeyD (D : DataW Unit) (f : Int → Bool) : Prop := IsMap D ∧ ∀ x, has D (.int .i64 x) = f x
theorem KeyD.made {f : Int → Bool} (h : ∀ x, f x = false) : KeyD (.map []) f := ⟨isMap_empty, fun x => by rw [h]; rfl⟩
theorem KeyD.put {D : DataW Unit} {f g : Int → Bool} (h : KeyD D f) {x : Int} {d : DataW Unit} (h2 : ∀ y, g y = (f y || y == x)) : KeyD (D.put (.int .i64 x) d) g := by
  refine ⟨h.1.put _ _, fun y => ?_⟩
  rw [h2]
  by_cases e : y = x
  · subst e; rw [has_put_same h.1 (keyLit_int y)]; simp
  · rw [has_put_other (fun h => e (by injection h)), h.2 y, show (y == x) = false by simpa using e, Bool.or_false]
theorem KeyD.congr {D : DataW Unit} {f g : Int → Bool} (h : KeyD D f) (h2 : ∀ y, g y = f y) : KeyD D g := ⟨h.1, fun y => by rw [h.2, h2]⟩
theorem keysK_c (b nn : Nat) (D0 : DataW Unit) (w : World) (hown : w.ownsMap Try.prog 3 (plainElem Try.prog 3) b nn D0) (f : Int → Bool) (hf : KeyD D0 f) (L : List Int) (hL : L.Pairwise (· < ·)) (hm : ∀ x, x ∈ L ↔ f x = true) (hn : nn ≤ 10000000000) :
    Calls Try.prog 33 #[.map (some b)] w fun e w' => ∃ A c, e = .returned (.slice A L.length c) ∧ IntsAt w' A L.length L ∧ Below w.heap.size w w' := by
  have hsz := hown.size_le
  refine (keys4_c b nn D0 _ w hown (by unfold maxLen; omega) (by omega)).mono ?_
  rintro e w' ⟨v, ss, rfl, hS, hrow, hb⟩
  have hk := keys_sorted hown Try.underlying3 hS hL (fun x => by rw [hm, hf.2])
  have hl : ss.length = L.length := by rw [← hk, List.length_mergeSort]
  rw [hk, hl, show (encZ : Int → Value) = Value.int .i64 from rfl, ← encI_map4] at hrow
  obtain ⟨A, c, rfl, -, hsl⟩ := SlAt.of_own (d := (0 : Int)) encI_len hrow rfl
  exact ⟨A, c, rfl, ints_iff.2 hsl, hb⟩
/-- all lengths of a rod in some truths -/
def rl4 (l : List Bu4) (q : Nat) : List Int := (ups 0 9999).filter fun n => l.any fun x => n == x.u.at_ q
def rk4 (l : List Bu4) (q k : Nat) (n : Int) : Bool := (l.take k).any fun x => n == x.u.at_ q
theorem rk4_succ {l : List Bu4} {q k : Nat} {x : Bu4} (h : l[k]? = some x) (n : Int) : rk4 l q (k + 1) n = (rk4 l q k n || n == x.u.at_ q) := by
  unfold rk4
  rw [List.take_add_one, h, List.any_append]
  simp
theorem at_b4 {a b c d : Int} {v4 v5 v6 v7 : Value} {q : Nat} (h : q < 4) : (#[Value.int .i64 a, .int .i64 b, .int .i64 c, .int .i64 d, v4, v5, v6, v7] : Array Value)[q]? = some (.int .i64 ((⟨a, b, c, d⟩ : W4).at_ q)) := by
  match q, h with
  | 0, _ => rfl
  | 1, _ => rfl
  | 2, _ => rfl
  | 3, _ => rfl

end Go.Proofs.Ytglpgcgidkdkiaa

namespace Go.Proofs.Ytglpgcgidkdkiaa
open Go.RowKit
open Go.Sort (grow)
set_option linter.unusedVariables false
set_option linter.unusedSimpArgs false

def rds4 (p : P4) (rod : Int) : List Int := bif op4 p (wn rod 0 ((p.rods.length : Int) - 1)) == 0 then rl4 (tr4 p) rod.toNat else []
theorem ol4_okw {p : P4} {is : Bool} : ∀ x ∈ ol4 p is, OkW x.u := by
  intro x hx
  unfold ol4 at hx
  cases h : ck4 p
  · rw [h] at hx; simp at hx
  cases is
  · simp at hx
  rw [h] at hx
  simp only [Bool.and_self, cond_true] at hx
  exact ws4_ok (ok4_of h rfl rfl) (mem_tr4.1 hx).1.1
theorem nil_ints (w : World) : IntsAt w none 0 [] := ⟨rfl, fun h => absurd h (by omega)⟩

end Go.Proofs.Ytglpgcgidkdkiaa

namespace Go.Proofs.Ytglpgcgidkdkiaa
open Go.RowKit
open Go.Sort (grow)
set_option linter.unusedVariables false
set_option linter.unusedSimpArgs false

attribute [local go_sem] Oper.semAt_some
theorem run_min24 {P : Program} {w : World} (ts : Array TypeId) (t : TypeId) (x y : Int) : (Builtin.min_ ts t #[.int .i64 x, .int .i64 y]).run P w = .ok (.int .i64 (min x y)) w := by
  simp [Builtin.min_, Builtin.min2]
  omega
attribute [local go_sem high] run_min24
def fwk4 (n : Nat) (l : List Bu4) (k : Nat) : Nat := (l.take k).foldl (fun m x => min m (x.b.1 + x.a.1)) n
theorem fwk4_succ {n : Nat} {l : List Bu4} {k : Nat} {x : Bu4} (h : l[k]? = some x) : fwk4 n l (k + 1) = min (fwk4 n l k) (x.b.1 + x.a.1) := by
  unfold fwk4
  rw [List.take_add_one, h, List.foldl_append]
  rfl
theorem fwk4_le {n : Nat} {l : List Bu4} : ∀ {k : Nat}, k ≤ l.length → fwk4 n l k ≤ n
  | 0, _ => by unfold fwk4; simp
  | k + 1, h => by
    rw [fwk4_succ (List.getElem?_eq_getElem (by omega))]
    have := fwk4_le (n := n) (l := l) (k := k) (by omega)
    omega
theorem fwk4_mem {n : Nat} {l : List Bu4} {j : Nat} {x : Bu4} (h : l[j]? = some x) : ∀ {k : Nat}, j < k → k ≤ l.length → fwk4 n l k ≤ x.b.1 + x.a.1
  | 0, hj, _ => absurd hj (by omega)
  | k + 1, hj, hk => by
    by_cases e : j = k
    · subst e
      rw [fwk4_succ h]
      omega
    · rw [fwk4_succ (List.getElem?_eq_getElem (by omega))]
      have := fwk4_mem (n := n) h (k := k) (by omega) (by omega)
      omega
theorem fwk4_hit {n : Nat} {l : List Bu4} : ∀ {k : Nat}, k ≤ l.length → fwk4 n l k = n ∨ ∃ x ∈ l, fwk4 n l k = x.b.1 + x.a.1
  | 0, _ => .inl (by unfold fwk4; simp)
  | k + 1, h => by
    rw [fwk4_succ (List.getElem?_eq_getElem (by omega))]
    rcases Nat.le_total (fwk4 n l k) ((l[k]'(by omega)).b.1 + (l[k]'(by omega)).a.1) with e | e
    · rw [Nat.min_eq_left e]
      exact fwk4_hit (by omega)
    · rw [Nat.min_eq_right e]
      exact .inr ⟨_, List.getElem_mem _, rfl⟩
/-- what Fewest returns -/
def few4 (p : P4) : Int := bif ck4 p then ((fwk4 p.res.length (bs4 p) (bs4 p).length : Nat) : Int) else 0

end Go.Proofs.Ytglpgcgidkdkiaa
