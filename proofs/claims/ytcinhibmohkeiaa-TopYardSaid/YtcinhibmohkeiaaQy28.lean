/- settings (layer 3): all settings behind one, one after the other, handed to a function. -/
import Derived.Test.YtcinhibmohkeiaaQy27
import Derived.Test.YtcinhibmohkeiaaQy12
import Derived.Deep.DrawnRows
import Derived.Deep.DeepCutAuto
import Derived.Deep.RegionLaw
namespace Go.Proofs.Ytcinhibmohkeiaa
open Go.RowKit
open Go.Sort (grow)
set_option linter.unusedVariables false
set_option linter.unusedSimpArgs false

def enc3 (s : St3) : Value := .agg #[.int .i64 s.s0, .int .i64 s.s1, .int .i64 s.s2, .int .i64 s.lk, .int .i64 s.bw]
def encP (x : St3 × Nat) : Array Value := #[enc3 x.1, .int .i64 x.2]
/-- what settings asks of the one that is handed the settings -/
structure SetEnv (P : Program) (B l : Nat) (Mem : World → Prop) (xs : List (St3 × Nat)) (J : (Nat → Prop) → (Nat → Prop) → Nat → World → Prop) (Jx : World → Prop) : Prop where
  mem : ∀ K O k W1, J K O k W1 → Mem W1
  stp : ∀ K O K' O' k W1 W2, (∀ b, K b → B ≤ b) → J K O k W1 → Stp K O K' O' W1 W2 → J K' O' k W2
  yld : ∀ K O k x W1, (∀ b, K b → B ≤ b) → (∀ b, O b → K b) → xs[k]? = some x → J K O k W1 → YieldW P l (encP x) W1 fun e W' => (e = .returned (.bool true) ∧ J K O (k + 1) W' ∧ KpO K W1 W') ∨ (e = .returned (.bool false) ∧ Jx W' ∧ KpO K W1 W')
/-- what is left to do, by what the box holds -/
def lkM (g : Nat) (l1 : Int) (w : World) : Nat := match w.cell? ⟨g, 3, none⟩ with | some (.int _ x) => (l1 + 1 - x).toNat | _ => 0
theorem lkM_eq {g : Nat} {l1 x : Int} {w : World} (h : w.cell? ⟨g, 3, none⟩ = some (.int .i64 x)) : lkM g l1 w = (l1 + 1 - x).toNat := by unfold lkM; rw [h]
set_option maxRecDepth 100000 in
set_option maxHeartbeats 3200000 in
theorem set0_c (gm : Nat) (Al : Option Addr) (nl cl : Nat) (wa l0 l1 : Int) (Ab : Option Addr) (nb cb : Nat) (wrg ab : Int) (lv : List Lv) (bl : List Bal) (l B : Nat) (xs : List (St3 × Nat)) (J : (Nat → Prop) → (Nat → Prop) → Nat → World → Prop) (Jx : World → Prop)
    (E : SetEnv Try.prog B l (MemM gm 95 Al nl cl wa l0 l1 Ab nb cb wrg ab lv bl) xs J Jx) (ok : OkM nl nb wa l0 l1 wrg ab lv bl) (s : St3) (hs : 1 ≤ s.bw ∧ s.bw ≤ 1000000000) (K : Nat → Prop) (k : Nat) (w : World) (hK : ∀ b, K b → B ≤ b) (hB : B ≤ w.heap.size)
    (hJ : J K (fun _ => False) k w) (hx : ∀ j x, ((ups l0 l1).map fun q => ({ s with lk := q }, wr3 wa ab bl { s with lk := q } nb))[j]? = some x → xs[k + j]? = some x) :
    Calls Try.prog 66 #[.pointer (some ⟨gm, 0, none⟩), enc3 s, .int .i64 nl, .func (.yield l) #[] #[]] w (SetPost J Jx B K (k + (l1 - l0 + 1).toNat) w) := by
  have M0 := E.mem _ _ _ _ hJ
  have c0 := M0.blk.cell
  have lt0 := M0.blk.lt
  have HE := Lib.hid E
  have OK := Lib.hid ok
  have HX := Lib.hid hx
  have HJ := Lib.hid hJ
  obtain ⟨b1, b2, b3⟩ := ok.lk
  obtain ⟨s0, s1, s2, lk, bw⟩ := s
  simp only at hs
  unfold enc3
  simp only
  have hB0 : decide ((nl : Int) < nl) = false := by simp
  clear E ok hx hJ M0
  go_enter Try.func66, Try.ntmps66
  go_upto_region 11 with (fail)
  go_name_world X hX
  have BX : Below w.heap.size w X := (al1 hX).1
  have zX : X.heap.size = w.heap.size + 1 := (al1 hX).2
  have q0 := (al1_0 hX).2.1
  have l0' := (al1_0 hX).1
  have HBX : Hid (Blk X w.heap.size 92 #[.int .i64 s0, .int .i64 s1, .int .i64 s2, .int .i64 lk, .int .i64 bw]) := by rw [← hX]; exact Blk.new w _ _
  have cx := fun j => (BX.cell (p := ⟨gm, j, none⟩) lt0).trans (c0 j)
  have fx := HBX.out.frozen
  have ltx : gm < X.heap.size := Nat.lt_of_lt_of_le lt0 BX.size
  clear hX c0
  go_upto_region 12 with (fail)
  go_name_world Y hY
  obtain ⟨K1, hK1⟩ : ∃ K1 : Nat → Prop, K1 = fun b => K b ∨ b = w.heap.size := ⟨_, rfl⟩
  obtain ⟨O1, hO1⟩ : ∃ O1 : Nat → Prop, O1 = fun b => b = w.heap.size := ⟨_, rfl⟩
  have hK1B : ∀ b, K1 b → B ≤ b := by rw [hK1]; rintro b (h | rfl) <;> first | exact hK b h | exact hB
  have hKO : ∀ b, O1 b → K1 b := by rw [hK1, hO1]; exact fun b h => .inr h
  have HJY : Hid (J K1 O1 k Y) := by
    refine HE.out.stp K (fun _ => False) K1 O1 k w Y hK HJ.out ?_
    have t1 : Stp K (fun _ => False) K1 O1 w X := ⟨BX.os, BX.tape, BX.output, BX.size, fun b h => by rw [hK1]; exact .inl h, fun b h => by rw [hK1] at h; exact h.imp_right fun e => by omega, fun b h => by rw [hO1] at h; exact .inr (by rw [h]; omega), hKO, fun j hj _ => BX.block j hj⟩
    refine t1.trans ?_
    rw [← hY]
    exact Stp.set (by rw [hO1]) hKO _
  have HBY : Hid (Blk Y w.heap.size 92 #[.int .i64 s0, .int .i64 s1, .int .i64 s2, .int .i64 (l0 + (0 : Nat)), .int .i64 bw]) := by
    refine Lib.hid ?_
    rw [← hY]
    have := HBX.out.set_ 3 (.int .i64 l0)
    simpa using this
  have HKY : Hid (KpO K w Y) := by
    rw [← hY]
    exact (KpO.of_below BX).then_set (by simp) _
  clear hY q0 cx fx HBX HJ
  go_loopw [] (fun (wr : World) => ∃ j : Nat, l0 + j ≤ l1 + 1 ∧ Hid (Blk wr w.heap.size 92 #[.int .i64 s0, .int .i64 s1, .int .i64 s2, .int .i64 (l0 + j), .int .i64 bw]) ∧ Hid (J K1 O1 (k + j) wr) ∧ Hid (KpO K w wr)) (fun wr => lkM w.heap.size l1 wr)
  case atStart => exact ⟨0, by omega, HBY, HJY, HKY⟩
  case round =>
    obtain ⟨j, hj, HBr, HJr, HKr⟩ := hrel
    have MR := HE.out.mem _ _ _ _ HJr.out
    have cm := MR.blk.cell
    have ltm := MR.blk.lt
    have HMR := Lib.hid MR
    have qb := HBr.out.cell
    have fb := HBr.out.frozen
    have HMS := Lib.hid (lkM_eq (l1 := l1) ((HBr.out.cell 3).trans rfl))
    have ltb := HBr.out.lt
    clear MR
    by_cases hle : l0 + j ≤ l1
    · have hqB : decide (l0 + (j : Int) ≤ l1) = true := decide_eq_true hle
      go_wp2_with fail
      have hcq := fun p : Regrown => (bcell (below_regrown wr p.d p.os)).1
      refine wp_region_quiet_below (by kernel_rfl) (by kernel_rfl) ?_
      repeat (go_big_quiet_step ((fail)))
      refine wpQuiet_nil ?_
      intro wq hq
      obtain ⟨pq, hq⟩ := hq
      have hbq : Below wr.heap.size wr wq := by rw [hq]; exact below_regrown _ _ _
      clear hq hcq pq
      obtain ⟨hcq, hfq⟩ := bcell hbq
      have zq := hbq.size
      have qbq := fun i => (hcq w.heap.size i ltb).trans (qb i)
      have cmq := fun i => (hcq gm i ltm).trans (cm i)
      clear hcq hfq qb cm
      go_wp2_with fail
      obtain ⟨sj, hsj⟩ : ∃ sj : St3, (⟨s0, s1, s2, l0 + j, bw⟩ : St3) = sj := ⟨_, rfl⟩
      have HSJ := Lib.hid hsj
      have hnb := OK.out.nb6
      have ltbq := Nat.lt_of_lt_of_le ltb zq
      have ltmq := Nat.lt_of_lt_of_le ltm zq
      have HBQ := Lib.hid hbq
      have HJQ := Lib.hid (HE.out.stp K1 O1 K1 O1 _ wr wq hK1B HJr.out (.below0 hbq hKO))
      have HKQ := Lib.hid (HKr.out.then_below hbq)
      have HMQ := Lib.hid (HMR.out.later hbq)
      have HBBQ := Lib.hid (HBr.out.below hbq ltb)
      clear hbq hsj
      go_loopw [89, 11] (fun i c (wt : World) => ∃ p : Nat, p ≤ nb ∧ i = .int .i64 p ∧ c = .int .i64 (wr3 wa ab bl sj p) ∧ Hid (Below wq.heap.size wq wt)) (fun i _ _ => nb - (intOf i).toNat)
      case atStart => exact ⟨0, by omega, rfl, rfl, Lib.hid (Below.refl _ _)⟩
      case round =>
        obtain ⟨p, hp, rfl, rfl, HBt⟩ := hrel
        have hbt := HBt.out
        have zt := hbt.size
        have cbt := fun i => (hbt.cell (p := ⟨w.heap.size, i, none⟩) ltbq).trans (qbq i)
        have ltbt := Nat.lt_of_lt_of_le ltbq zt
        have HMT := Lib.hid (HMQ.out.later hbt)
        have hwl : wr3 wa ab bl sj p ≤ p := wr3_le
        by_cases hpn : p < nb
        · have hpB : decide ((p : Int) < nb) = true := by simp; omega
          obtain ⟨ab', ao, hA, hab, x0, x1, x2, x3⟩ := HMT.out.hb.get hpn
          subst hA
          have hba := OK.out.ba p hpn
          have HBA := Lib.hid (fun V (hV : Below wr.heap.size wr V) => isRight_c gm Al nl cl wa l0 l1 _ nb cb wrg ab sj (baAt bl p) V ((HMT.out.later hV).blk) OK.out.wa (by rw [← HSJ.out]; exact ⟨by show 0 ≤ l0 + (j : Int); omega, by show l0 + (j : Int) ≤ 20; omega⟩) hba.1 hba.2.1 OK.out.ab (by rw [← HSJ.out]; exact hs) hba.2.2.1 hba.2.2.2)
          have hw1 : IntKind.i64.wrap ((wr3 wa ab bl sj p : Int) + 1) = (wr3 wa ab bl sj p : Int) + 1 := IntWalk.i64_in _ (by omega)
          have hw2 : IntKind.i64.wrap ((p : Int) + 1) = (p : Int) + 1 := IntWalk.i64_in _ (by omega)
          cases hrt : rt3 wa ab sj (baAt bl p)
          · have hsu : wr3 wa ab bl sj (p + 1) = wr3 wa ab bl sj p + 1 := by rw [wr3_succ, hrt]; rfl
            have HSU := Lib.hid hsu
            rw [hrt] at HBA
            have HBA := Lib.hid HBA
            clear hrt hsu
            go_wp2_with (go_at_call 69; refine ((congrArg (fun z => Calls _ _ #[_, z, _] _ _) (by rw [← HSJ.out])).mpr (HBA.out _ (by (repeat first | with_reducible assumption | with_reducible exact Below.refl _ _ | (with_reducible refine Below.alloc ?_ ?side _; case side => (first | omega | (with_reducible exact Below.size (by assumption)) | (simp; done) | (simp; omega))) | (with_reducible refine Below.setCell ?_ ?side _; case side => (first | omega | (with_reducible exact Below.size (by assumption)) | (simp; done) | (simp; omega))) | with_reducible refine Below.drew ?_ | with_reducible refine below_drewN ?_ _ | (with_reducible refine below_step (by assumption) ?side ?_; case side => (first | omega | (with_reducible exact Below.size (by assumption)) | (simp; done) | (simp; omega))))))).mono ?_; rintro e w9 ⟨rfl, hb9⟩)
            go_roundw
            case rel =>
              refine ⟨p + 1, by omega, by go_num, ?_, Lib.hid ?_⟩
              · rw [HSU.out]; go_num
              · have hB1 := HBt.out
                (repeat first | with_reducible assumption | with_reducible exact Below.refl _ _ | (with_reducible refine Below.alloc ?_ ?side _; case side => (first | omega | (with_reducible exact Below.size (by assumption)) | (simp; done) | (simp; omega))) | (with_reducible refine Below.setCell ?_ ?side _; case side => (first | omega | (with_reducible exact Below.size (by assumption)) | (simp; done) | (simp; omega))) | with_reducible refine Below.drew ?_ | with_reducible refine below_drewN ?_ _ | (with_reducible refine below_step (by assumption) ?side ?_; case side => (first | omega | (with_reducible exact Below.size (by assumption)) | (simp; done) | (simp; omega))))
            case measure => simp [intOf]; omega
          · have hsu : wr3 wa ab bl sj (p + 1) = wr3 wa ab bl sj p := by rw [wr3_succ, hrt]; rfl
            have HSU := Lib.hid hsu
            rw [hrt] at HBA
            have HBA := Lib.hid HBA
            clear hrt hsu
            go_wp2_with (go_at_call 69; refine ((congrArg (fun z => Calls _ _ #[_, z, _] _ _) (by rw [← HSJ.out])).mpr (HBA.out _ (by (repeat first | with_reducible assumption | with_reducible exact Below.refl _ _ | (with_reducible refine Below.alloc ?_ ?side _; case side => (first | omega | (with_reducible exact Below.size (by assumption)) | (simp; done) | (simp; omega))) | (with_reducible refine Below.setCell ?_ ?side _; case side => (first | omega | (with_reducible exact Below.size (by assumption)) | (simp; done) | (simp; omega))) | with_reducible refine Below.drew ?_ | with_reducible refine below_drewN ?_ _ | (with_reducible refine below_step (by assumption) ?side ?_; case side => (first | omega | (with_reducible exact Below.size (by assumption)) | (simp; done) | (simp; omega))))))).mono ?_; rintro e w9 ⟨rfl, hb9⟩)
            go_roundw
            case rel =>
              refine ⟨p + 1, by omega, by go_num, ?_, Lib.hid ?_⟩
              · rw [HSU.out]
              · have hB1 := HBt.out
                (repeat first | with_reducible assumption | with_reducible exact Below.refl _ _ | (with_reducible refine Below.alloc ?_ ?side _; case side => (first | omega | (with_reducible exact Below.size (by assumption)) | (simp; done) | (simp; omega))) | (with_reducible refine Below.setCell ?_ ?side _; case side => (first | omega | (with_reducible exact Below.size (by assumption)) | (simp; done) | (simp; omega))) | with_reducible refine Below.drew ?_ | with_reducible refine below_drewN ?_ _ | (with_reducible refine below_step (by assumption) ?side ?_; case side => (first | omega | (with_reducible exact Below.size (by assumption)) | (simp; done) | (simp; omega))))
            case measure => simp [intOf]; omega
        · obtain rfl : p = nb := by omega
          have hpB : decide ((p : Int) < p) = false := by simp
          have hJt := HE.out.stp K1 O1 K1 O1 _ wq wr hK1B HJQ.out (.below0 hbt hKO)
          obtain ⟨fn, tmps, assign, body, hy, hR⟩ := HE.out.yld K1 O1 (k + j) (sj, wr3 wa ab bl sj p) wr hK1B hKO (HX.out j _ (by rw [List.getElem?_map, ups_get hle, ← HSJ.out]; rfl)) hJt
          have HBB := Lib.hid (HBBQ.out.below hbt ltbq)
          have HKT := Lib.hid (HKQ.out.then_below hbt)
          rw [encP, ← HSJ.out] at hy
          unfold enc3 at hy
          simp only at hy
          rw [HSJ.out] at hy
          have HY := Lib.hid hy
          clear hJt HJQ HMT hy qbq cmq
          go_upto_region 21 with (fail)
          refine (Go.wpIn_wide (n := 3)).1 ?_
          have hy := HY.out
          gi_wp2
          refine (hR _).mono ?_
          rintro e W4 (⟨rfl, hJ4, hK4⟩ | ⟨rfl, hJ4, -⟩)
          · have HB4 := Lib.hid (hK4.blk HBB.out (by rw [hK1]; exact .inr rfl))
            have HJ4 := Lib.hid hJ4
            have HK4 : Hid (KpO K w W4) := Lib.hid ⟨Nat.le_trans HKT.out.1 hK4.1, fun b h1 h2 => (hK4.2 b (by rw [hK1]; exact .inl h1) (Nat.lt_of_lt_of_le h2 HKT.out.1)).trans (HKT.out.2 b h1 h2)⟩
            have qw := HB4.out.cell
            have fw := HB4.out.frozen
            have hwj : IntKind.i64.wrap (l0 + (j : Int) + 1) = l0 + (j : Int) + 1 := IntWalk.i64_in _ (by omega)
            clear hJ4 hK4 hR hy
            gi_wp2_with fail
            go_wp2_with fail
            go_roundw
            case rel =>
              refine ⟨j + 1, by omega, Lib.hid ?_, Lib.hid ?_, Lib.hid (HK4.out.then_set (by simp) _)⟩
              · have := HB4.out.set_ 3 (.int .i64 (l0 + (j : Int) + 1))
                rw [show l0 + ((j + 1 : Nat) : Int) = l0 + (j : Int) + 1 by omega]
                simpa using this
              · exact HE.out.stp K1 O1 K1 O1 _ W4 _ hK1B HJ4.out (.set (by rw [hO1]) hKO _)
            case measure =>
              rw [HMS.out, lkM_eq (((HB4.out.set_ 3 (.int .i64 (l0 + (j : Int) + 1))).cell 3).trans rfl)]
              omega
          · have HJ4 := Lib.hid hJ4
            clear hJ4 hR hy
            gi_wp2_with fail
            go_wp2_with fail
            go_ret
            exact .inr ⟨rfl, HJ4.out⟩
    · have hqB : decide (l0 + (j : Int) ≤ l1) = false := decide_eq_false hle
      go_wp2_with fail
      have hcq := fun p : Regrown => (bcell (below_regrown wr p.d p.os)).1
      refine wp_region_quiet_below (by kernel_rfl) (by kernel_rfl) ?_
      repeat (go_big_quiet_step ((fail)))
      refine wpQuiet_nil ?_
      intro wq hq
      obtain ⟨pq, hq⟩ := hq
      have hbq : Below wr.heap.size wr wq := by rw [hq]; exact below_regrown _ _ _
      clear hq hcq pq
      obtain ⟨hcq, hfq⟩ := bcell hbq
      have zq := hbq.size
      go_wp2_with fail
      go_ret
      have e : (l1 - l0 + 1).toNat = j := by omega
      rw [e]
      refine .inl ⟨rfl, ⟨K1, fun b h => by rw [hK1]; exact .inl h, hK1B, ?_⟩, HKr.out.then_below hbq⟩
      exact HE.out.stp K1 O1 K1 (fun _ => False) _ wq wq hK1B (HE.out.stp K1 O1 K1 O1 _ wr wq hK1B HJr.out (.below0 hbq hKO)) .drop

end Go.Proofs.Ytcinhibmohkeiaa
