/- The specification's all (layer 4), walked: all lengths of a pull, whether readings are right or not; The specification's known (layer 4), walked: all truths of a pull, or the error of one that is asked for something. -/
import Derived.Test.YtmmgkmdfecnkdaaQa41
import Derived.Test.YtmmgkmdfecnkdaaQa37
import Derived.Test.YtmmgkmdfecnkdaaQa38
import Derived.Shelf.Abstract
import Derived.Laws.EntriesVeiled
import Derived.Handy
import Derived.Deep.DrawnRows
import Derived.Deep.DeepCutAuto
namespace Go.Proofs.Ytmmgkmdfecnkdaa
open Go.RowKit
open Go.Sort (grow)
set_option linter.unusedVariables false
set_option linter.unusedSimpArgs false

def aR4 (b a : Int) (W : List W4) (k : Nat) : List (Int × Int × W4) := (W.take k).map fun u => (b, a, u)
def aM4 (b lo : Int) (W : List W4) (j : Nat) : List (Int × Int × W4) := ((List.range j).map fun t : Nat => lo + (t : Int)).flatMap fun a => W.map fun u => (b, a, u)
def aO4 (lo : Int) (W : List W4) (G i : Nat) : List (Int × Int × W4) := ((List.range i).map fun t : Nat => lo + (t : Int)).flatMap fun b => aM4 b lo W G
/-- w4At: the lengths of the rods, one by one -/
def wAt4 (W : List W4) (k : Nat) : W4 := W.getD k ⟨0, 0, 0, 0⟩
theorem wAt4_some {W : List W4} {k : Nat} (h : k < W.length) : W[k]? = some (wAt4 W k) := by
  unfold wAt4; rw [List.getD_eq_getElem?_getD, List.getElem?_eq_getElem h]; rfl
theorem aR4_succ {b a : Int} {W : List W4} {k : Nat} (h : k < W.length) : aR4 b a W (k + 1) = aR4 b a W k ++ [(b, a, wAt4 W k)] := by
  unfold aR4
  rw [List.take_add_one, wAt4_some h, List.map_append]; rfl
theorem aR4_full {b a : Int} {W : List W4} : aR4 b a W W.length = W.map fun u => (b, a, u) := by unfold aR4; rw [List.take_length]
theorem aM4_succ {b lo : Int} {W : List W4} {j : Nat} : aM4 b lo W (j + 1) = aM4 b lo W j ++ aR4 b (lo + (j : Int)) W W.length := by
  rw [aR4_full]
  unfold aM4
  rw [List.range_succ, List.map_append, List.flatMap_append]; simp
theorem aO4_succ {lo : Int} {W : List W4} {G i : Nat} : aO4 lo W G (i + 1) = aO4 lo W G i ++ aM4 (lo + (i : Int)) lo W G := by
  unfold aO4
  rw [List.range_succ, List.map_append, List.flatMap_append]; simp
theorem alt4_aO {p : P4} : alt4 p = aO4 p.glo (ws4 p) (p.ghi - p.glo + 1).toNat (p.ghi - p.glo + 1).toNat := rfl
theorem aR4_len {b a : Int} {W : List W4} {k : Nat} : (aR4 b a W k).length ≤ k := by unfold aR4; rw [List.length_map, List.length_take]; omega
theorem aM4_len {b lo : Int} {W : List W4} : ∀ {j : Nat}, (aM4 b lo W j).length = j * W.length
  | 0 => by simp [aM4]
  | j + 1 => by rw [aM4_succ, List.length_append, aM4_len, aR4_full, List.length_map, Nat.succ_mul]
theorem aO4_len {lo : Int} {W : List W4} {G : Nat} : ∀ {i : Nat}, (aO4 lo W G i).length = i * (G * W.length)
  | 0 => by simp [aO4]
  | i + 1 => by rw [aO4_succ, List.length_append, aO4_len, aM4_len, Nat.succ_mul]
theorem aM4_le {b lo : Int} {W : List W4} {j : Nat} (hj : j ≤ 9) (hW : W.length ≤ 12) : (aM4 b lo W j).length ≤ 108 := by
  rw [aM4_len]; exact Nat.le_trans (Nat.mul_le_mul hj hW) (by decide)
theorem aO4_le {lo : Int} {W : List W4} {G i : Nat} (hi : i ≤ 9) (hG : G ≤ 9) (hW : W.length ≤ 12) : (aO4 lo W G i).length ≤ 972 := by
  rw [aO4_len]; exact Nat.le_trans (Nat.mul_le_mul hi (Nat.mul_le_mul hG hW)) (by decide)
set_option maxRecDepth 100000 in
set_option maxHeartbeats 3200000 in
theorem refall4_c (Ar : Option Addr) (nr cr : Nat) (Ad : Option Addr) (nd cd : Nat) (p : P4) (w : World) (ok : Ok4 nr nd p) (HM : MemP Ar nr Ad nd p w) (hg8 : p.ghi - p.glo ≤ 8) (h12 : (ws4 p).length ≤ 12) :
    Calls Try.prog 42 #[.agg #[.int .i64 p.ir, .int .i64 p.glo, .int .i64 p.ghi, .slice Ar nr cr, .slice Ad nd cd, .int .i64 p.wr]] w fun e w' =>
      ∃ A c hs, e = .returned (.slice A (alt4 p).length c) ∧ ThsAt nr w' A (alt4 p).length hs (alt4 p) ∧ Below w.heap.size w w' := by
  have hwe : ∀ k, (roAt p.rods k).we ≤ 9 := fun k => by
    rcases Nat.lt_or_ge k nr with h | h
    · exact (ok.ro k h).2.1.2.1
    · unfold roAt
      rw [List.getD_eq_getElem?_getD, List.getElem?_eq_none (by rw [ok.lr]; exact h)]
      decide
  have HWO := Lib.hid (fun V (hV : Below w.heap.size w V) => refworn4_c Ar nr cr Ad nd cd p.ir p.glo p.ghi p.wr p.rods ok.nr4 hwe (fun k hk => ⟨(ok.ro k hk).1, (ok.ro k hk).2.1.1, (ok.ro k hk).2.1.2.1⟩) nr none 0 0 [] V rfl (by omega) (HM.hr.later hV) (nil_ints V) (fun a h => by cases h))
  have hwl := woL_ws4 (p := p) (by rw [ok.lr]; exact ok.nr4)
  rw [ok.lr] at hwl
  rw [hwl] at HWO
  have hg := ok.g
  rw [alt4_aO]
  obtain ⟨W, hW⟩ : ∃ W, ws4 p = W := ⟨_, rfl⟩
  rw [hW] at HWO h12 ⊢
  clear hW hwl hwe HM ok
  obtain ⟨ir, glo, ghi, wrg, rods, res⟩ := p
  simp only at HWO hg8 hg ⊢
  obtain ⟨G, hG⟩ : ∃ G : Nat, (ghi - glo + 1).toNat = G := ⟨_, rfl⟩
  rw [hG]
  have HG : Hid ((G : Int) = ghi - glo + 1) := Lib.hid (by omega)
  have hG9 : G ≤ 9 := by omega
  obtain ⟨N, hN⟩ : ∃ N : Nat, W.length = N := ⟨_, rfl⟩
  have HN := Lib.hid hN
  have hNm : (W.map (uL4 nr)).length = N := by rw [List.length_map, hN]
  have HOL := Lib.hid (fun k (hk : k ≤ 9) => aO4_le (lo := glo) (W := W) (G := G) hk hG9 h12)
  have HML := Lib.hid (fun b j (hj : j ≤ 9) => aM4_le (b := b) (lo := glo) (W := W) hj h12)
  rw [hN] at h12
  clear hG hN
  go_enter Try.func42, Try.ntmps42
  go_upto_region 2 with (fail)
  go_name_world X hX
  have BX : Below w.heap.size w X := (al1 hX).1
  have HPX : Hid (Blk X w.heap.size 27 #[Value.int .i64 ir, .int .i64 glo, .int .i64 ghi, .slice Ar nr cr, .slice Ad nd cd, .int .i64 wrg]) := by rw [← hX]; exact Lib.hid (Blk.new w _ _)
  have qX := HPX.out.cell
  have lX := HPX.out.lt
  clear hX
  go_upto_region 3 with (go_at_call 69; refine (HWO.out X BX).mono ?_; (rintro e w1 ⟨WA, wc, whs, rfl, hss, -, hb1⟩); (have HP1 := Lib.hid (HPX.out.below hb1 HPX.out.lt)); (have B1 := BX.trans (hb1.mono BX.size)); (have HSS := Lib.hid hss); clear hb1 hss qX)
  rw [hNm] at HSS
  have q1 := HP1.out.cell
  have l1 := HP1.out.lt
  go_wp2_with fail
  clear q1
  go_loopw [3, 5] (fun v i (wr : World) => ∃ (k : Nat) (hs : List Th4), k ≤ G ∧ i = .int .i64 (glo + (k : Int)) ∧ Hid (OwnThs nr w1.heap.size wr v (aO4 glo W G k).length hs (aO4 glo W G k)) ∧ Below w1.heap.size w1 wr) (fun _ i _ => G - (intOf i - glo).toNat)
  case atStart => exact ⟨0, [], by omega, by simp, Lib.hid (OwnThs.nil nr w1 w1.heap.size), Below.refl _ _⟩
  case round =>
    obtain ⟨i, hs, hi, rfl, HO, hb⟩ := hrel
    have zb := hb.size
    have HPR := Lib.hid (HP1.out.below hb l1)
    have cR := HPR.out.cell
    have lR := HPR.out.lt
    have gg := HG.out
    by_cases hlt : i < G
    · have hqB : decide (glo + (i : Int) ≤ ghi) = true := decide_eq_true (by omega)
      have vi : IntKind.i64.wrap (glo + (i : Int) + 1) = glo + (i : Int) + 1 := IntWalk.i64_in _ (by omega)
      clear gg
      go_wp2_with fail
      clear cR hqB
      obtain ⟨wo, rfl⟩ : ∃ wo : World, wo = wr := ⟨_, rfl⟩
      go_loopw [3, 6] (fun v j (wr : World) => ∃ (k : Nat) (hs : List Th4), k ≤ G ∧ j = .int .i64 (glo + (k : Int)) ∧ Hid (OwnThs nr w1.heap.size wr v (aO4 glo W G i ++ aM4 (glo + (i : Int)) glo W k).length hs (aO4 glo W G i ++ aM4 (glo + (i : Int)) glo W k)) ∧ Below w1.heap.size w1 wr) (fun _ j _ => G - (intOf j - glo).toNat)
      case atStart => exact ⟨0, hs, by omega, by simp, by rw [show aM4 (glo + (i : Int)) glo W 0 = [] from rfl, List.append_nil]; exact HO, hb⟩
      case round =>
        obtain ⟨j, hs2, hj, rfl, HO2, hb2⟩ := hrel
        have zb2 := hb2.size
        have HPR2 := Lib.hid (HP1.out.below hb2 l1)
        have cR := HPR2.out.cell
        have lR2 := HPR2.out.lt
        have gg := HG.out
        by_cases hlt2 : j < G
        · have hqB : decide (glo + (j : Int) ≤ ghi) = true := decide_eq_true (by omega)
          have vj : IntKind.i64.wrap (glo + (j : Int) + 1) = glo + (j : Int) + 1 := IntWalk.i64_in _ (by omega)
          clear gg
          go_wp2_with fail
          clear cR hqB
          obtain ⟨wo2, rfl⟩ : ∃ wo : World, wo = wr := ⟨_, rfl⟩
          go_loopw [3, 7] (fun v j' (wr : World) => ∃ (k : Nat) (hs : List Th4), k ≤ N ∧ j' = .int .i64 (k : Int) ∧ Hid (OwnThs nr w1.heap.size wr v (aO4 glo W G i ++ aM4 (glo + (i : Int)) glo W j ++ aR4 (glo + (i : Int)) (glo + (j : Int)) W k).length hs (aO4 glo W G i ++ aM4 (glo + (i : Int)) glo W j ++ aR4 (glo + (i : Int)) (glo + (j : Int)) W k)) ∧ Below w1.heap.size w1 wr) (fun _ j' _ => N - (intOf j').toNat)
          case atStart => exact ⟨0, hs2, by omega, by simp, by rw [show aR4 (glo + (i : Int)) (glo + (j : Int)) W 0 = [] from rfl, List.append_nil]; exact HO2, hb2⟩
          case round =>
            obtain ⟨k, hs3, hk, rfl, HO3, hb3⟩ := hrel
            have zb3 := hb3.size
            by_cases hlt3 : k < N
            · have hqB : decide ((k : Int) < N) = true := decide_eq_true (by omega)
              have vk : IntKind.i64.wrap ((k : Int) + 1) = (k : Int) + 1 := IntWalk.i64_in _ (by omega)
              obtain ⟨b, off, eA, hbl, d0, hI⟩ := (HSS.out.later hb3).get hlt3
              cases eA
              have HII := Lib.hid hI
              have HBD := Lib.hid ((HSS.out.bd k hlt3))
              have HXA : Hid (xAt (W.map (uL4 nr)) k = uL4 nr (wAt4 W k)) := Lib.hid (by
                unfold xAt wAt4
                rw [List.getD_eq_getElem?_getD, List.getD_eq_getElem?_getD, List.getElem?_map, List.getElem?_eq_getElem (by rw [HN.out]; exact hlt3)]; rfl)
              have HSN := Lib.hid (aR4_succ (b := glo + (i : Int)) (a := glo + (j : Int)) (W := W) (k := k) (by rw [HN.out]; exact hlt3))
              have b1 := HOL.out i (by omega)
              have b2 := HML.out (glo + (i : Int)) j (by omega)
              have b3 := aR4_len (b := glo + (i : Int)) (a := glo + (j : Int)) (W := W) (k := k)
              obtain ⟨T, hT⟩ : ∃ T, aO4 glo W G i ++ aM4 (glo + (i : Int)) glo W j ++ aR4 (glo + (i : Int)) (glo + (j : Int)) W k = T := ⟨_, rfl⟩
              rw [hT] at HO3
              have hTl : T.length ≤ 2000 := by rw [← hT, List.length_append, List.length_append]; omega
              have HT := Lib.hid hT
              obtain ⟨tn, htn⟩ : ∃ n, T.length = n := ⟨_, rfl⟩
              rw [htn] at HO3 hTl
              have HTN := Lib.hid htn
              obtain ⟨⟨BA, Bn, Bc⟩, hhA⟩ : ∃ h, hAt whs k = h := ⟨_, rfl⟩
              rw [hhA] at d0 HII HBD
              simp only at d0 HII HBD
              have hBn : Bn = nr := by
                have h1 := HII.out.1
                rw [HXA.out, uL4_len] at h1
                exact h1.symm
              subst hBn
              clear hT htn hhA hI b1 b2 b3
              go_wp2_with (at_builtin; go_must (refine wpList_append_T _ (d := (⟨0, 0, ⟨none, 0, 0⟩⟩ : Th4)) rfl (.tmp 36) (.tmp 44) _ rfl w1.heap.size _ 3 40 truE4 encTh4_len encTh4_one u3 u3.ownBlock tn hs3 rfl rfl ?ow _ 1 _ [⟨glo + (i : Int), glo + (j : Int), ⟨BA, Bn, Bc⟩⟩] rfl ?sl (by omega) ?sz ?_; (case ow => exact own_below HO3.out.own (by (repeat first | with_reducible assumption | with_reducible exact Below.refl _ _ | (with_reducible refine Below.alloc ?_ ?side _; case side => (first | omega | (with_reducible exact Below.size (by assumption)) | (simp; done) | (simp; omega))) | (with_reducible refine Below.setCell ?_ ?side _; case side => (first | omega | (with_reducible exact Below.size (by assumption)) | (simp; done) | (simp; omega))) | with_reducible refine Below.drew ?_ | with_reducible refine below_drewN ?_ _ | (with_reducible refine below_step (by assumption) ?side ?_; case side => (first | omega | (with_reducible exact Below.size (by assumption)) | (simp; done) | (simp; omega)))))); (case sl => exact sl_new encTh4_len (by first | rfl | simp) rfl rfl); (case sz => go_size); (rintro v8 w8 ho8 hg8 ha8); (have hb8 : Below w1.heap.size wr w8 := Below.grown (by (repeat first | with_reducible assumption | with_reducible exact Below.refl _ _ | (with_reducible refine Below.alloc ?_ ?side _; case side => (first | omega | (with_reducible exact Below.size (by assumption)) | (simp; done) | (simp; omega))) | (with_reducible refine Below.setCell ?_ ?side _; case side => (first | omega | (with_reducible exact Below.size (by assumption)) | (simp; done) | (simp; omega))) | with_reducible refine Below.drew ?_ | with_reducible refine below_drewN ?_ _ | (with_reducible refine below_step (by assumption) ?side ?_; case side => (first | omega | (with_reducible exact Below.size (by assumption)) | (simp; done) | (simp; omega))))) hg8 (by go_size) (own_ge HO3.out.own)); (have HO8 := Lib.hid (HO3.out.push (t := (glo + (i : Int), glo + (j : Int), wAt4 W k)) ⟨rfl, rfl, rfl, by rw [← HXA.out]; exact HII.out⟩ (fun a ha => ⟨fun e => by have h1 := (HO3.out.own.lt _ e).1; have h2 := HBD.out a ha; omega, Nat.lt_of_lt_of_le (HBD.out a ha) zb3⟩) ho8 hg8 ha8)); (clear ho8 hg8 ha8)))
              go_roundw
              case rel => exact ⟨k + 1, hs3 ++ [⟨glo + (i : Int), glo + (j : Int), ⟨BA, Bn, Bc⟩⟩], by omega, by go_num, by rw [HSN.out, ← List.append_assoc, HT.out, List.length_append, HTN.out]; exact HO8, hb3.trans hb8⟩
              case measure => simp [intOf]; omega
            · obtain rfl : N = k := by omega
              have hqB : decide (((N : Nat) : Int) < N) = false := decide_eq_false (by omega)
              go_wp2_with fail
              go_roundw
              case rel => exact ⟨j + 1, hs3, by omega, by go_num, by rw [aM4_succ, ← List.append_assoc, HN.out]; exact HO3, hb3⟩
              case measure => simp [intOf]; omega
        · obtain rfl : G = j := by omega
          have hqB : decide (glo + ((G : Nat) : Int) ≤ ghi) = false := decide_eq_false (by omega)
          clear gg
          go_wp2_with fail
          clear cR hqB
          go_roundw
          case rel => exact ⟨i + 1, hs2, by omega, by go_num, by rw [aO4_succ]; exact HO2, hb2⟩
          case measure => simp [intOf]; omega
    · obtain rfl : G = i := by omega
      have hqB : decide (glo + ((G : Nat) : Int) ≤ ghi) = false := decide_eq_false (by omega)
      obtain ⟨A3, c3, rfl, hss3⟩ := HO.out.ths
      have HS3 := Lib.hid hss3
      clear gg hss3 HO
      go_wp2_with fail
      exact bodyPost_ret (v := .slice A3 (aO4 glo W G G).length c3) (by simp [results, Try.results42, go_sem]) rfl ⟨A3, c3, hs, rfl, HS3.out, B1.trans (hb.mono B1.size)⟩

end Go.Proofs.Ytmmgkmdfecnkdaa

namespace Go.Proofs.Ytmmgkmdfecnkdaa
open Go.RowKit
open Go.Sort (grow)
set_option linter.unusedVariables false
set_option linter.unusedSimpArgs false

/-- what known hands back -/
def Kn4 (nr : Nat) (z : Int) (ts : List (Int × Int × W4)) (w : World) (e : Ending) (w' : World) : Prop :=
  ∃ A c hs, e = .returned (.tuple #[.slice A ts.length c, .int .i64 z]) ∧ ThsAt nr w' A ts.length hs ts ∧ Below w.heap.size w w'
theorem ThsAt.nil (nr : Nat) (w : World) : ThsAt nr w none 0 [] [] := ⟨⟨rfl, fun h => absurd h (by omega)⟩, rfl, fun k hk => absurd hk (by omega), fun k hk => absurd hk (by omega)⟩
/-- the truths among the first k -/
def tlK4 (f : Int × Int × W4 → Bool) (ts : List (Int × Int × W4)) (k : Nat) : List (Int × Int × W4) := (ts.take k).filter f
theorem tuAt_some {ts : List (Int × Int × W4)} {k : Nat} (h : k < ts.length) : ts[k]? = some (tuAt ts k) := by
  unfold tuAt; rw [List.getD_eq_getElem?_getD, List.getElem?_eq_getElem h]; rfl
theorem tlK4_yes {f : Int × Int × W4 → Bool} {ts : List (Int × Int × W4)} {k : Nat} (hk : k < ts.length) (h : f (tuAt ts k) = true) : tlK4 f ts (k + 1) = tlK4 f ts k ++ [tuAt ts k] := by
  unfold tlK4
  rw [List.take_add_one, tuAt_some hk, List.filter_append]; simp [h]
theorem tlK4_no {f : Int × Int × W4 → Bool} {ts : List (Int × Int × W4)} {k : Nat} (hk : k < ts.length) (h : f (tuAt ts k) = false) : tlK4 f ts (k + 1) = tlK4 f ts k := by
  unfold tlK4
  rw [List.take_add_one, tuAt_some hk, List.filter_append]; simp [h]
theorem tlK4_le {f : Int × Int × W4 → Bool} {ts : List (Int × Int × W4)} {k : Nat} : (tlK4 f ts k).length ≤ k := by
  unfold tlK4
  exact Nat.le_trans (List.length_filter_le _ _) (by rw [List.length_take]; omega)
theorem tlK4_full {f : Int × Int × W4 → Bool} {ts : List (Int × Int × W4)} : tlK4 f ts ts.length = ts.filter f := by unfold tlK4; rw [List.take_length]
def wtB4 (p : P4) (t : Int × Int × W4) : Bool := decide (((wt4 p t : Nat) : Int) ≤ p.wr)
theorem trl4_wt {p : P4} : trl4 p = (alt4 p).filter (wtB4 p) := rfl
theorem alt4_le {nr nd : Nat} {p : P4} (ok : Ok4 nr nd p) (hg8 : p.ghi - p.glo ≤ 8) (h12 : (ws4 p).length ≤ 12) : (alt4 p).length ≤ 972 := by
  rw [alt4_aO]; exact aO4_le (by omega) (by omega) h12
theorem refWrongsT_c (Ar : Option Addr) (nr cr : Nat) (Ad : Option Addr) (nd cd : Nat) (p : P4) (T : Option Addr) (c : Nat) (t : Int × Int × W4) (V : World) (ok : Ok4 nr nd p) (HM : MemP Ar nr Ad nd p V) (HT : IntsAt V T nr (uL4 nr t.2.2)) (ht : t ∈ alt4 p) :
    Calls Try.prog 43 #[.agg #[.int .i64 p.ir, .int .i64 p.glo, .int .i64 p.ghi, .slice Ar nr cr, .slice Ad nd cd, .int .i64 p.wr], .agg #[.int .i64 t.1, .int .i64 t.2.1, .slice T nr c]] V
      fun e w' => e = .returned (.int .i64 (wt4 p t : Nat)) ∧ Below V.heap.size V w' := by
  have h1 := alt4_in ok ht
  have := refWrongs4_c Ar nr cr Ad nd cd p T c (uL4 nr t.2.2) t.1 t.2.1 V ok HM HT h1.1 h1.2.1 (fun q hq => by rw [uL4_at hq]; exact h1.2.2 q hq)
  rw [wt4_eq ok ht] at this
  exact this
set_option maxRecDepth 100000 in
set_option maxHeartbeats 3200000 in
theorem known4_c (Ar : Option Addr) (nr cr : Nat) (Ad : Option Addr) (nd cd : Nat) (p : P4) (is : Bool) (w : World) (hnr : nr ≤ 40) (hnd : nd ≤ 40) (HM : MemP Ar nr Ad nd p w) (hg8 : ck4 p = true → p.ghi - p.glo ≤ 8) (h12 : ck4 p = true → (ws4 p).length ≤ 12) :
    Calls Try.prog 45 #[.agg #[.int .i64 p.ir, .int .i64 p.glo, .int .i64 p.ghi, .slice Ar nr cr, .slice Ad nd cd, .int .i64 p.wr], .bool is] w (Kn4 nr (op4 p is) (knL4 p is) w) := by
  have HCK := Lib.hid (fun V (hV : Below w.heap.size w V) => refCheck4_c Ar nr cr Ad nd cd p V hnr hnd (HM.later hV))
  have hr := HM.hr.1
  have hd := HM.hd.1
  unfold Kn4
  cases hck : ck4 p
  · have e1 : op4 p is = 40 := by unfold op4; rw [hck]; rfl
    have e2 : knL4 p is = [] := knL4_no (by rw [e1]; decide)
    rw [e1, e2]
    rw [hck, show er4 false = 40 from rfl] at HCK
    clear HM hr hd hg8 h12 hck e1 e2
    obtain ⟨ir, glo, ghi, wrg, rods, res⟩ := p
    simp only [List.length_nil] at HCK ⊢
    go_enter Try.func45, Try.ntmps45
    go_upto_region 1 with (fail)
    go_name_world X hX
    have BX : Below w.heap.size w X := (al1 hX).1
    have HPX : Hid (Blk X w.heap.size 27 #[Value.int .i64 ir, .int .i64 glo, .int .i64 ghi, .slice Ar nr cr, .slice Ad nd cd, .int .i64 wrg]) := by rw [← hX]; exact Lib.hid (Blk.new w _ _)
    have qX := HPX.out.cell
    have lX := HPX.out.lt
    clear hX
    go_wp2_with (go_at_call 9; refine (HCK.out X BX).mono ?_; (rintro e w1 ⟨rfl, hb1⟩); (have B1 := BX.trans (hb1.mono BX.size)); clear hb1 qX lX)
    exact bodyPost_ret (v := .tuple #[.slice none 0 0, .int .i64 40]) (by simp [results, Try.results45, go_sem]) rfl ⟨none, 0, [], rfl, .nil _ _, B1⟩
  rw [hck, show er4 true = 0 from rfl] at HCK
  cases is
  · have e1 : op4 p false = 1 := by unfold op4; rw [hck]; rfl
    have e2 : knL4 p false = [] := knL4_no (by rw [e1]; decide)
    rw [e1, e2]
    clear HM hr hd hg8 h12 hck e1 e2
    obtain ⟨ir, glo, ghi, wrg, rods, res⟩ := p
    simp only [List.length_nil] at HCK ⊢
    go_enter Try.func45, Try.ntmps45
    go_upto_region 1 with (fail)
    go_name_world X hX
    have BX : Below w.heap.size w X := (al1 hX).1
    have HPX : Hid (Blk X w.heap.size 27 #[Value.int .i64 ir, .int .i64 glo, .int .i64 ghi, .slice Ar nr cr, .slice Ad nd cd, .int .i64 wrg]) := by rw [← hX]; exact Lib.hid (Blk.new w _ _)
    have qX := HPX.out.cell
    have lX := HPX.out.lt
    clear hX
    go_wp2_with (go_at_call 9; refine (HCK.out X BX).mono ?_; (rintro e w1 ⟨rfl, hb1⟩); (have B1 := BX.trans (hb1.mono BX.size)); clear hb1 qX lX)
    exact bodyPost_ret (v := .tuple #[.slice none 0 0, .int .i64 1]) (by simp [results, Try.results45, go_sem]) rfl ⟨none, 0, [], rfl, .nil _ _, B1⟩
  have ok := ok4_of hck hr hd
  have g8 := hg8 hck
  have w12 := h12 hck
  have HAL := Lib.hid (fun V (hV : Below w.heap.size w V) => refall4_c Ar nr cr Ad nd cd p V ok (HM.later hV) g8 w12)
  have HIN := Lib.hid (fun k (hk : k < (alt4 p).length) => alt4_in ok (tuAt_mem hk))
  have HWR := Lib.hid (fun k (hk : k < (alt4 p).length) T c V (hV : Below w.heap.size w V) (HT : IntsAt V T nr (uL4 nr (tuAt (alt4 p) k).2.2)) => refWrongsT_c Ar nr cr Ad nd cd p T c (tuAt (alt4 p) k) V ok (HM.later hV) HT (tuAt_mem hk))
  have hle := alt4_le ok g8 w12
  have HTL : Hid (knL4 p true = (alt4 p).filter (wtB4 p) ∧ op4 p true = if ((alt4 p).filter (wtB4 p)).length = 0 then 3 else 0) := Lib.hid (by
    rw [← trl4_wt]
    cases e : trl4 p with
    | nil =>
      have h0 : tr4 p = [] := trl4_nil.1 e
      have h1 : op4 p true = 3 := op4_none hck h0
      exact ⟨knL4_no (by rw [h1]; decide), by rw [h1]; rfl⟩
    | cons t l =>
      have h1 : op4 p true = 0 := (op4_truth hck).2 ⟨_, _, _, mem_trl4.1 (by rw [e]; exact List.mem_cons_self .. : t ∈ trl4 p)⟩
      exact ⟨by rw [knL4_yes h1, e], by rw [h1]; rfl⟩)
  obtain ⟨R, hR⟩ : ∃ R, knL4 p true = R := ⟨_, rfl⟩
  obtain ⟨z, hz⟩ : ∃ R, op4 p true = R := ⟨_, rfl⟩
  rw [hR, hz] at HTL ⊢
  have HB : Hid (∀ k, wtB4 p (tuAt (alt4 p) k) = decide (((wt4 p (tuAt (alt4 p) k) : Nat) : Int) ≤ p.wr)) := Lib.hid fun k => rfl
  have HLE := Lib.hid (fun k (hk : k < (alt4 p).length) => wt4_le ok (tuAt_mem hk))
  have hnd8 := ok.nd8
  obtain ⟨F, hF⟩ : ∃ F, wtB4 p = F := ⟨_, rfl⟩
  rw [hF] at HTL HB
  obtain ⟨U, hU⟩ : ∃ F, wt4 p = F := ⟨_, rfl⟩
  rw [hU] at HWR HB HLE
  obtain ⟨l, hl⟩ : ∃ l, alt4 p = l := ⟨_, rfl⟩
  rw [hl] at HAL HIN HWR hle HTL HB HLE
  obtain ⟨m, hm⟩ : ∃ m, l.length = m := ⟨_, rfl⟩
  rw [hm] at HAL HIN HWR hle HLE
  have HML := Lib.hid hm
  clear HM hr hd hg8 h12 hck ok g8 w12 hR hz hF hU hl hm
  obtain ⟨ir, glo, ghi, wrg, rods, res⟩ := p
  simp only at HCK HAL HWR HB ⊢
  go_enter Try.func45, Try.ntmps45
  go_upto_region 1 with (fail)
  go_name_world X hX
  have BX : Below w.heap.size w X := (al1 hX).1
  have HPX : Hid (Blk X w.heap.size 27 #[Value.int .i64 ir, .int .i64 glo, .int .i64 ghi, .slice Ar nr cr, .slice Ad nd cd, .int .i64 wrg]) := by rw [← hX]; exact Lib.hid (Blk.new w _ _)
  have qX := HPX.out.cell
  have lX := HPX.out.lt
  clear hX
  go_upto_region 8 with (first | (go_at_call 9; refine (HCK.out X BX).mono ?_; (rintro e w1 ⟨rfl, hb1⟩); (have B1 := BX.trans (hb1.mono BX.size)); (have HP1 := Lib.hid (HPX.out.below hb1 HPX.out.lt)); (have q1 := HP1.out.cell); (have l1 := HP1.out.lt); clear hb1 qX lX) | (go_at_call 42; refine (HAL.out w1 B1).mono ?_; (rintro e w2 ⟨LA, lc, lhs, rfl, hths, hb2⟩); (have B2 := B1.trans (hb2.mono B1.size)); (have HP2 := Lib.hid (HP1.out.below hb2 HP1.out.lt)); (have HT := Lib.hid hths); clear hb2 q1 l1 hths))
  have l2 := HP2.out.lt
  go_wp2_with fail
  go_loopw [7, 9] (fun v i (wr : World) => ∃ (k : Nat) (hs : List Th4), k ≤ m ∧ i = .int .i64 (k : Int) ∧ Hid (OwnThs nr w2.heap.size wr v (tlK4 F l k).length hs (tlK4 F l k)) ∧ Below w2.heap.size w2 wr) (fun _ i _ => m - (intOf i).toNat)
  case atStart => exact ⟨0, [], by omega, by simp, Lib.hid (OwnThs.nil nr w2 w2.heap.size), Below.refl _ _⟩
  case round =>
    obtain ⟨k, hs, hk, rfl, HO, hb⟩ := hrel
    have zb := hb.size
    have HPR := Lib.hid (HP2.out.below hb l2)
    have lR := HPR.out.lt
    have hbw : Below w.heap.size w wr := B2.trans (hb.mono B2.size)
    by_cases hlt : k < m
    · have hqB : decide ((k : Int) < m) = true := decide_eq_true (by omega)
      have vk : IntKind.i64.wrap ((k : Int) + 1) = (k : Int) + 1 := IntWalk.i64_in _ (by omega)
      obtain ⟨b0, off0, B, c, eA, hbl, d0, d1, d2, hI, hBD⟩ := HT.out.getb hlt
      have HBD := Lib.hid hBD
      cases eA
      replace d0 := (hb.cell (p := ⟨b0, off0 + k * 3, none⟩) hbl).trans d0
      replace d1 := (hb.cell (p := ⟨b0, off0 + k * 3 + 1, none⟩) hbl).trans d1
      replace d2 := (hb.cell (p := ⟨b0, off0 + k * 3 + 2, none⟩) hbl).trans d2
      replace hbl : b0 < wr.heap.size := Nat.lt_of_lt_of_le hbl zb
      replace hI := hI.later hb
      clear hBD
      have cR := HPR.out.cell
      have HC := Lib.hid (fun V (hV : Below wr.heap.size wr V) => HWR.out k hlt B c V (hbw.trans (hV.mono hbw.size)) (hI.later hV))
      have hul := HLE.out k hlt
      have hFk := HB.out k
      have HYES := Lib.hid (fun h => tlK4_yes (f := F) (ts := l) (k := k) (by rw [HML.out]; exact hlt) h)
      have HNO := Lib.hid (fun h => tlK4_no (f := F) (ts := l) (k := k) (by rw [HML.out]; exact hlt) h)
      have hl0 := tlK4_le (f := F) (ts := l) (k := k)
      have HII := Lib.hid hI
      obtain ⟨t, ht⟩ : ∃ t, tuAt l k = t := ⟨_, rfl⟩
      rw [ht] at d0 d1 HC hul hFk HYES HNO HII
      obtain ⟨u, hu⟩ : ∃ u, U t = u := ⟨_, rfl⟩
      rw [hu] at HC hul hFk
      obtain ⟨tb, ta, tu⟩ := t
      simp only at d0 d1 HC HII
      cases e1 : F (tb, ta, tu)
      · rw [e1] at hFk
        replace hFk := hFk.symm
        have HN := Lib.hid (HNO.out e1)
        clear HNO HYES e1 ht hu hI
        go_upto_region 11 with (fail)
        have hcq := fun p : Regrown => (bcell (below_regrown wr p.d p.os)).1
        refine wp_region_quiet_below (by kernel_rfl) (by kernel_rfl) ?_
        repeat (go_big_quiet_step ((go_at_call 43; exact Calls.regrown_of (HC.out _ (below_regrown _ _ _)))))
        refine wpQuiet_nil ?_
        intro wq hq
        obtain ⟨pq, hq⟩ := hq
        have hbq : Below wr.heap.size wr wq := by rw [hq]; exact below_regrown _ _ _
        clear hq hcq pq
        obtain ⟨hcq, hfq⟩ := bcell hbq
        have zq := hbq.size
        have BQ := Lib.hid (hb.trans (hbq.mono zb))
        have HO1 := Lib.hid (HO.out.later hbq)
        clear hcq hfq hbq cR d0 d1 d2
        go_wp2_with fail
        go_roundw
        case rel => exact ⟨k + 1, hs, by omega, by go_num, by rw [HN.out]; exact HO1, BQ.out⟩
        case measure => simp [intOf]; omega
      · rw [e1] at hFk
        replace hFk := hFk.symm
        have HN := Lib.hid (HYES.out e1)
        clear HNO HYES e1 ht hu hI
        go_upto_region 11 with (fail)
        have hcq := fun p : Regrown => (bcell (below_regrown wr p.d p.os)).1
        refine wp_region_quiet_below (by kernel_rfl) (by kernel_rfl) ?_
        repeat (go_big_quiet_step ((go_at_call 43; exact Calls.regrown_of (HC.out _ (below_regrown _ _ _)))))
        refine wpQuiet_nil ?_
        intro wq hq
        obtain ⟨pq, hq⟩ := hq
        have hbq : Below wr.heap.size wr wq := by rw [hq]; exact below_regrown _ _ _
        clear hq hcq pq
        obtain ⟨hcq, hfq⟩ := bcell hbq
        have zq := hbq.size
        have BQ := Lib.hid (hb.trans (hbq.mono zb))
        have HO1 := Lib.hid (HO.out.later hbq)
        have e0 := (hbq.cell (p := ⟨b0, off0 + k * 3, none⟩) hbl).trans d0
        have e1 := (hbq.cell (p := ⟨b0, off0 + k * 3 + 1, none⟩) hbl).trans d1
        have e2 := (hbq.cell (p := ⟨b0, off0 + k * 3 + 2, none⟩) hbl).trans d2
        have hbl2 : b0 < wq.heap.size := Nat.lt_of_lt_of_le hbl hbq.size
        have HIQ := Lib.hid (HII.out.later hbq)
        clear hcq hfq cR d0 d1 d2
        obtain ⟨T, hT⟩ : ∃ T, tlK4 F l k = T := ⟨_, rfl⟩
        rw [hT] at HO1 hl0 HN
        obtain ⟨tn, htn⟩ : ∃ n, T.length = n := ⟨_, rfl⟩
        rw [htn] at HO1 hl0
        have HTN := Lib.hid htn
        clear hT htn HO
        go_wp2_with (at_builtin; go_must (refine wpList_append_T _ (d := (⟨0, 0, ⟨none, 0, 0⟩⟩ : Th4)) rfl (.tmp 34) (.tmp 39) _ rfl w2.heap.size _ 3 40 truE4 encTh4_len encTh4_one u7 u7.ownBlock tn hs rfl rfl ?ow _ 1 _ [⟨tb, ta, ⟨B, nr, c⟩⟩] rfl ?sl (by omega) ?sz ?_; (case ow => exact own_below HO1.out.own (by (repeat first | with_reducible assumption | with_reducible exact Below.refl _ _ | (with_reducible refine Below.alloc ?_ ?side _; case side => (first | omega | (with_reducible exact Below.size (by assumption)) | (simp; done) | (simp; omega))) | (with_reducible refine Below.setCell ?_ ?side _; case side => (first | omega | (with_reducible exact Below.size (by assumption)) | (simp; done) | (simp; omega))) | with_reducible refine Below.drew ?_ | with_reducible refine below_drewN ?_ _ | (with_reducible refine below_step (by assumption) ?side ?_; case side => (first | omega | (with_reducible exact Below.size (by assumption)) | (simp; done) | (simp; omega)))))); (case sl => exact sl_new encTh4_len (by first | rfl | simp) rfl rfl); (case sz => go_size); (rintro v8 w8 ho8 hg8 ha8); (have hb8 : Below w2.heap.size wq w8 := Below.grown (by (repeat first | with_reducible assumption | with_reducible exact Below.refl _ _ | (with_reducible refine Below.alloc ?_ ?side _; case side => (first | omega | (with_reducible exact Below.size (by assumption)) | (simp; done) | (simp; omega))) | (with_reducible refine Below.setCell ?_ ?side _; case side => (first | omega | (with_reducible exact Below.size (by assumption)) | (simp; done) | (simp; omega))) | with_reducible refine Below.drew ?_ | with_reducible refine below_drewN ?_ _ | (with_reducible refine below_step (by assumption) ?side ?_; case side => (first | omega | (with_reducible exact Below.size (by assumption)) | (simp; done) | (simp; omega))))) hg8 (by go_size) (own_ge HO1.out.own)); (have HO8 := Lib.hid (HO1.out.push (t := (tb, ta, tu)) ⟨rfl, rfl, rfl, HIQ.out⟩ (fun a ha => ⟨fun e => by have h1 := (HO1.out.own.lt _ e).1; have h2 := HBD.out a ha; omega, Nat.lt_of_lt_of_le (HBD.out a ha) (by have := BQ.out.size; omega)⟩) ho8 hg8 ha8)); (clear ho8 hg8 ha8)))
        go_roundw
        case rel => exact ⟨k + 1, hs ++ [⟨tb, ta, ⟨B, nr, c⟩⟩], by omega, by go_num, by rw [HN.out, List.length_append, HTN.out]; exact HO8, BQ.out.trans hb8⟩
        case measure => simp [intOf]; omega
    · obtain rfl : m = k := by omega
      have hqB : decide (((m : Nat) : Int) < m) = false := decide_eq_false (by omega)
      obtain ⟨A3, c3, rfl, hss3⟩ := HO.out.ths
      have hfl : tlK4 F l m = l.filter F := by rw [← HML.out]; exact tlK4_full
      obtain ⟨hR1, hz1⟩ := HTL.out
      rw [← hfl] at hR1 hz1
      have HS3 := Lib.hid hss3
      obtain ⟨T, hT⟩ : ∃ T, tlK4 F l m = T := ⟨_, rfl⟩
      rw [hT] at HS3 hR1 hz1
      rw [hT]
      subst hR1
      clear hss3 HO HTL hfl hT
      by_cases h0 : R.length = 0
      · rw [if_pos h0] at hz1
        obtain rfl := List.eq_nil_of_length_eq_zero h0
        subst hz1
        clear h0
        simp only [List.length_nil] at HS3 ⊢
        go_wp2_with fail
        exact bodyPost_ret (v := .tuple #[.slice none 0 0, .int .i64 3]) (by simp [results, Try.results45, go_sem]) rfl ⟨none, 0, [], rfl, .nil nr _, hbw⟩
      · rw [if_neg h0] at hz1
        subst hz1
        have hne : (((R.length : Nat) : Int) == 0) = false := by simpa using h0
        go_wp2_with fail
        exact bodyPost_ret (v := .tuple #[.slice A3 R.length c3, .int .i64 0]) (by simp [results, Try.results45, go_sem]) rfl ⟨A3, c3, hs, rfl, HS3.out, hbw⟩

end Go.Proofs.Ytmmgkmdfecnkdaa
