/- settings (layer 3), at any lever. -/
import Derived.Test.YtcinhibmohkeiaaQy28
import Derived.Deep.DrawnRows
import Derived.Deep.DeepCutAuto
import Derived.Deep.RegionLaw
namespace Go.Proofs.Ytcinhibmohkeiaa
open Go.RowKit
open Go.Sort (grow)
set_option linter.unusedVariables false
set_option linter.unusedSimpArgs false

set_option maxRecDepth 100000 in
set_option maxHeartbeats 3200000 in
theorem set_c (gm : Nat) (Al : Option Addr) (nl cl : Nat) (wa l0 l1 : Int) (Ab : Option Addr) (nb cb : Nat) (wrg ab : Int) (lv : List Lv) (bl : List Bal) (l B : Nat) (xs : List (St3 × Nat)) (J : (Nat → Prop) → (Nat → Prop) → Nat → World → Prop) (Jx : World → Prop)
    (E : SetEnv Try.prog B l (MemM gm 95 Al nl cl wa l0 l1 Ab nb cb wrg ab lv bl) xs J Jx) (ok : OkM nl nb wa l0 l1 wrg ab lv bl) : ∀ (r i : Nat) (s : St3) (K : Nat → Prop) (k : Nat) (w : World), i + r = nl → (1 ≤ s.bw ∧ s.bw ≤ (1000 : Int) ^ i) → (∀ b, K b → B ≤ b) → B ≤ w.heap.size →
    J K (fun _ => False) k w → (∀ j y, (stS lv l0 l1 i r s)[j]? = some y → xs[k + j]? = some (y, wr3 wa ab bl y nb)) →
    Calls Try.prog 66 #[.pointer (some ⟨gm, 0, none⟩), enc3 s, .int .i64 i, .func (.yield l) #[] #[]] w (SetPost J Jx B K (k + (stS lv l0 l1 i r s).length) w) := by
  intro r
  induction r with
  | zero =>
    intro i s K k w hi hs hK hB hJ hx
    obtain rfl : i = nl := by omega
    have h3 := ok.nl3
    have hp : (1000 : Int) ^ i ≤ 1000000000 := by
      match i, h3 with
      | 0, _ => decide
      | 1, _ => decide
      | 2, _ => decide
      | 3, _ => decide
    have hlen : (stS lv l0 l1 i 0 s).length = (l1 - l0 + 1).toNat := by show ((ups l0 l1).map _).length = _; rw [List.length_map, ups_len]
    rw [hlen]
    refine set0_c gm Al i cl wa l0 l1 Ab nb cb wrg ab lv bl l B xs J Jx E ok s ⟨hs.1, Int.le_trans hs.2 hp⟩ K k w hK hB hJ ?_
    intro j x hx'
    rw [List.getElem?_map] at hx'
    cases hu : (ups l0 l1)[j]? with
    | none => rw [hu] at hx'; cases hx'
    | some q =>
      rw [hu] at hx'
      cases hx'
      exact hx j _ (by show ((ups l0 l1).map _)[j]? = _; rw [List.getElem?_map, hu]; rfl)
  | succ r ih =>
    intro i s K k w hi hs hK hB hJ hx
    have hin : i < nl := by omega
    have h3 := ok.nl3
    have hlv := ok.lv i hin
    obtain ⟨lo, hlo⟩ : ∃ x, (lvAt lv i).lo = x := ⟨_, rfl⟩
    obtain ⟨hi', hhi⟩ : ∃ x, (lvAt lv i).hi = x := ⟨_, rfl⟩
    rw [hlo, hhi] at hlv
    have hst : stS lv l0 l1 i (r + 1) s = (ups lo hi').flatMap fun n => stS lv l0 l1 (i + 1) r (s.put i n) := by rw [← hlo, ← hhi]; rfl
    rw [hst] at hx ⊢
    have HX := Lib.hid hx
    have HE := Lib.hid E
    have OK := Lib.hid ok
    have IH := Lib.hid ih
    have M0 := E.mem _ _ _ _ hJ
    have HJ := Lib.hid hJ
    have HM0 := Lib.hid M0
    have c0 := M0.blk.cell
    have lt0 := M0.blk.lt
    obtain ⟨ba, bo, hA, hba, -, x1, x2⟩ := M0.hl.get hin
    rw [hlo] at x1
    have hB0 : decide ((i : Int) < nl) = true := by simp; omega
    have HLO := Lib.hid hlo
    have HHI := Lib.hid hhi
    subst hA
    clear E ok hx ih hJ M0 hst hlo hhi x2
    obtain ⟨f, hf⟩ : ∃ f, (fun n => stS lv l0 l1 (i + 1) r (s.put i n)) = f := ⟨_, rfl⟩
    have HF := Lib.hid (fun n => (congrFun hf n).symm)
    rw [hf] at HX ⊢
    obtain ⟨pos, hps⟩ : ∃ pos : Nat → Nat, (fun t => (((ups lo hi').take t).flatMap f).length) = pos := ⟨_, rfl⟩
    have HPS := Lib.hid (fun t => congrFun hps t)
    obtain ⟨N, hN⟩ : ∃ N, ((ups lo hi').flatMap f).length = N := ⟨_, rfl⟩
    have HN : Hid (pos (hi' - lo + 1).toNat = N) := Lib.hid (by rw [← hps, ← hN]; show (((ups lo hi').take _).flatMap f).length = _; rw [List.take_of_length_le (by rw [ups_len]; omega)])
    have HP0 : pos 0 = 0 := by rw [← hps]; rfl
    have HP1 := Lib.hid (fun (t : Nat) (h : lo + (t : Int) ≤ hi') => show pos (t + 1) = pos t + (f (lo + t)).length by rw [← hps]; show (((ups lo hi').take (t + 1)).flatMap f).length = (((ups lo hi').take t).flatMap f).length + _; rw [take_one (f := f) (ups_get h), List.length_append])
    rw [hN]
    clear hf hps hN
    obtain ⟨s0, s1, s2, lk, bw⟩ := s
    simp only at hs HF
    unfold enc3
    simp only
    obtain rfl | rfl | rfl : i = 0 ∨ i = 1 ∨ i = 2 := by omega
    ·
      rw [show (((0 : Nat)) : Int) = 0 from rfl]
      have hB1 : decide ((0 : Int) < nl) = true := hB0
      go_enter Try.func66, Try.ntmps66
      go_upto_region 3 with (fail)
      go_name_world X hX
      have BX : Below w.heap.size w X := (al1 hX).1
      have zX : X.heap.size = w.heap.size + 1 := (al1 hX).2
      have l0' := (al1_0 hX).1
      have HBX : Hid (Blk X w.heap.size 92 #[.int .i64 s0, .int .i64 s1, .int .i64 s2, .int .i64 lk, .int .i64 bw]) := by rw [← hX]; exact Blk.new w _ _
      obtain ⟨K1, hK1⟩ : ∃ K1 : Nat → Prop, K1 = fun b => K b ∨ b = w.heap.size := ⟨_, rfl⟩
      have hK1B : ∀ b, K1 b → B ≤ b := by rw [hK1]; rintro b (h | rfl) <;> first | exact hK b h | exact hB
      have hKK1 : ∀ b, K b → K1 b := by rw [hK1]; exact fun b h => .inl h
      have hK1w : K1 w.heap.size := by rw [hK1]; exact .inr rfl
      have HJX : Hid (J K1 (fun _ => False) k X) := by
        refine HE.out.stp K (fun _ => False) K1 (fun _ => False) k w X hK HJ.out ?_
        exact ⟨BX.os, BX.tape, BX.output, BX.size, hKK1, fun b h => by rw [hK1] at h; exact h.imp_right fun e => by omega, fun b h => h.elim, fun b h => h.elim, fun j hj _ => BX.block j hj⟩
      have HKX := Lib.hid (KpO.of_below (K := K) BX)
      clear hX c0 x1 HM0 HJ
      go_loopw [9] (fun n (wr : World) => ∃ t : Nat, lo + t ≤ hi' + 1 ∧ n = .int .i64 (lo + t) ∧ ∃ K2 : Nat → Prop, (∀ b, K1 b → K2 b) ∧ (∀ b, K2 b → B ≤ b) ∧ Hid (Blk wr w.heap.size 92 #[.int .i64 s0, .int .i64 s1, .int .i64 s2, .int .i64 lk, .int .i64 bw]) ∧ Hid (J K2 (fun _ => False) (k + pos t) wr) ∧ Hid (KpO K w wr)) (fun n _ => (hi' + 1 - intOf n).toNat)
      case atStart => exact ⟨0, by omega, by simp, K1, fun _ h => h, hK1B, HBX, by rw [HP0]; exact HJX, HKX⟩
      case round =>
        obtain ⟨t, ht, rfl, K2, hK12, hK2B, HBr, HJr, HKr⟩ := hrel
        have MR := HE.out.mem _ _ _ _ HJr.out
        have cm := MR.blk.cell
        have ltm := MR.blk.lt
        obtain ⟨ba', bo', hA', hba', -, -, y2⟩ := MR.hl.get hin
        cases hA'
        rw [HHI.out] at y2
        have qb := HBr.out.cell
        have fb := HBr.out.frozen
        have ltb := HBr.out.lt
        clear MR
        by_cases hle : lo + t ≤ hi'
        · have hqB : decide (lo + (t : Int) ≤ hi') = true := decide_eq_true hle
          have g1 : 1 ≤ bw * (lo + (t : Int)) := Int.le_trans (by omega) (Int.mul_le_mul hs.1 (show (1 : Int) ≤ lo + (t : Int) by omega) (by omega) (by omega))
          have g2 : bw * (lo + (t : Int)) ≤ (1000 : Int) ^ 1 := by
            rw [Int.pow_succ]
            exact Int.mul_le_mul hs.2 (show lo + (t : Int) ≤ 1000 by omega) (by omega) (Int.pow_nonneg (by omega))
          have g3 : (1000 : Int) ^ 1 ≤ 1000000000 := by decide
          have w1 : IntKind.i64.wrap (bw * (lo + (t : Int))) = bw * (lo + (t : Int)) := IntWalk.i64_in _ (by omega)
          have w2 : IntKind.i64.wrap (lo + (t : Int) + 1) = lo + (t : Int) + 1 := IntWalk.i64_in _ (by omega)
          have hfn := HF.out (lo + t)
          have hcall : ∀ V, Below wr.heap.size wr V → Calls Try.prog 66 #[.pointer (some ⟨gm, 0, none⟩), .agg #[.int .i64 (lo + t), .int .i64 s1, .int .i64 s2, .int .i64 lk, .int .i64 (bw * (lo + t))], .int .i64 1, .func (.yield l) #[] #[]] V (SetPost J Jx B K2 (k + pos (t + 1)) V) := fun V hV => by
            have hz := HKr.out.1
            have h := IH.out 1 (St3.put ⟨s0, s1, s2, lk, bw⟩ (1 - 1) (lo + t)) K2 (k + pos t) V (by omega) ⟨by rw [St3.put_bw]; exact g1, by rw [St3.put_bw]; exact g2⟩ hK2B (Nat.le_trans hB (Nat.le_trans hz hV.size))
              (HE.out.stp K2 _ K2 _ _ wr V hK2B HJr.out (.below0 hV fun _ h => h.elim)) (fun j y hy => by
                rw [Nat.add_assoc]
                rw [← HPS.out t]
                exact HX.out _ y (flat_seg (ups_get hle) (by rw [hfn]; exact hy)))
            rw [HP1.out t hle, hfn, ← Nat.add_assoc]
            exact h
          have HC := Lib.hid hcall
          clear hcall hfn g1 g2 g3
          go_wp2_with (go_at_call 66; refine (HC.out _ (by (repeat first | with_reducible assumption | with_reducible exact Below.refl _ _ | (with_reducible refine Below.alloc ?_ ?side _; case side => (first | omega | (with_reducible exact Below.size (by assumption)) | (simp; done) | (simp; omega))) | (with_reducible refine Below.setCell ?_ ?side _; case side => (first | omega | (with_reducible exact Below.size (by assumption)) | (simp; done) | (simp; omega))) | with_reducible refine Below.drew ?_ | with_reducible refine below_drewN ?_ _ | (with_reducible refine below_step (by assumption) ?side ?_; case side => (first | omega | (with_reducible exact Below.size (by assumption)) | (simp; done) | (simp; omega)))))).mono ?_; rintro e w9 (⟨rfl, ⟨K3, k3, b3, hj9⟩, hk9⟩ | ⟨rfl, hx9⟩))
          · go_roundw
            case rel =>
              have hB1 := (Below.refl wr.heap.size wr).alloc (Nat.le_refl _) (.cells #[.int .i64 (lo + t), .int .i64 s1, .int .i64 s2, .int .i64 lk, .int .i64 (bw * (lo + t))] 92)
              refine ⟨t + 1, by omega, by go_num, K3, fun b h => k3 b (hK12 b h), b3, Lib.hid (hk9.blk (HBr.out.below hB1 ltb) (hK12 _ hK1w)), Lib.hid hj9, Lib.hid (HKr.out.chain hB1 hk9 fun b h => hK12 b (hKK1 b h))⟩
            case measure => simp [intOf]; omega
          · go_wp2_with fail
            go_ret
            exact .inr ⟨rfl, hx9⟩
        · have hqB : decide (lo + (t : Int) ≤ hi') = false := decide_eq_false hle
          have e : pos t = N := by rw [← HN.out]; congr 1; omega
          rw [e] at HJr
          clear e
          go_wp2_with fail
          go_ret
          exact .inl ⟨rfl, ⟨K2, fun b h => hK12 b (hKK1 b h), hK2B, HJr.out⟩, HKr.out⟩
    ·
      rw [show (((1 : Nat)) : Int) = 1 from rfl]
      have hB1 : decide ((1 : Int) < nl) = true := hB0
      go_enter Try.func66, Try.ntmps66
      go_upto_region 3 with (fail)
      go_name_world X hX
      have BX : Below w.heap.size w X := (al1 hX).1
      have zX : X.heap.size = w.heap.size + 1 := (al1 hX).2
      have l0' := (al1_0 hX).1
      have HBX : Hid (Blk X w.heap.size 92 #[.int .i64 s0, .int .i64 s1, .int .i64 s2, .int .i64 lk, .int .i64 bw]) := by rw [← hX]; exact Blk.new w _ _
      obtain ⟨K1, hK1⟩ : ∃ K1 : Nat → Prop, K1 = fun b => K b ∨ b = w.heap.size := ⟨_, rfl⟩
      have hK1B : ∀ b, K1 b → B ≤ b := by rw [hK1]; rintro b (h | rfl) <;> first | exact hK b h | exact hB
      have hKK1 : ∀ b, K b → K1 b := by rw [hK1]; exact fun b h => .inl h
      have hK1w : K1 w.heap.size := by rw [hK1]; exact .inr rfl
      have HJX : Hid (J K1 (fun _ => False) k X) := by
        refine HE.out.stp K (fun _ => False) K1 (fun _ => False) k w X hK HJ.out ?_
        exact ⟨BX.os, BX.tape, BX.output, BX.size, hKK1, fun b h => by rw [hK1] at h; exact h.imp_right fun e => by omega, fun b h => h.elim, fun b h => h.elim, fun j hj _ => BX.block j hj⟩
      have HKX := Lib.hid (KpO.of_below (K := K) BX)
      clear hX c0 x1 HM0 HJ
      go_loopw [9] (fun n (wr : World) => ∃ t : Nat, lo + t ≤ hi' + 1 ∧ n = .int .i64 (lo + t) ∧ ∃ K2 : Nat → Prop, (∀ b, K1 b → K2 b) ∧ (∀ b, K2 b → B ≤ b) ∧ Hid (Blk wr w.heap.size 92 #[.int .i64 s0, .int .i64 s1, .int .i64 s2, .int .i64 lk, .int .i64 bw]) ∧ Hid (J K2 (fun _ => False) (k + pos t) wr) ∧ Hid (KpO K w wr)) (fun n _ => (hi' + 1 - intOf n).toNat)
      case atStart => exact ⟨0, by omega, by simp, K1, fun _ h => h, hK1B, HBX, by rw [HP0]; exact HJX, HKX⟩
      case round =>
        obtain ⟨t, ht, rfl, K2, hK12, hK2B, HBr, HJr, HKr⟩ := hrel
        have MR := HE.out.mem _ _ _ _ HJr.out
        have cm := MR.blk.cell
        have ltm := MR.blk.lt
        obtain ⟨ba', bo', hA', hba', -, -, y2⟩ := MR.hl.get hin
        cases hA'
        rw [HHI.out] at y2
        have qb := HBr.out.cell
        have fb := HBr.out.frozen
        have ltb := HBr.out.lt
        clear MR
        by_cases hle : lo + t ≤ hi'
        · have hqB : decide (lo + (t : Int) ≤ hi') = true := decide_eq_true hle
          have g1 : 1 ≤ bw * (lo + (t : Int)) := Int.le_trans (by omega) (Int.mul_le_mul hs.1 (show (1 : Int) ≤ lo + (t : Int) by omega) (by omega) (by omega))
          have g2 : bw * (lo + (t : Int)) ≤ (1000 : Int) ^ 2 := by
            rw [Int.pow_succ]
            exact Int.mul_le_mul hs.2 (show lo + (t : Int) ≤ 1000 by omega) (by omega) (Int.pow_nonneg (by omega))
          have g3 : (1000 : Int) ^ 2 ≤ 1000000000 := by decide
          have w1 : IntKind.i64.wrap (bw * (lo + (t : Int))) = bw * (lo + (t : Int)) := IntWalk.i64_in _ (by omega)
          have w2 : IntKind.i64.wrap (lo + (t : Int) + 1) = lo + (t : Int) + 1 := IntWalk.i64_in _ (by omega)
          have hfn := HF.out (lo + t)
          have hcall : ∀ V, Below wr.heap.size wr V → Calls Try.prog 66 #[.pointer (some ⟨gm, 0, none⟩), .agg #[.int .i64 s0, .int .i64 (lo + t), .int .i64 s2, .int .i64 lk, .int .i64 (bw * (lo + t))], .int .i64 2, .func (.yield l) #[] #[]] V (SetPost J Jx B K2 (k + pos (t + 1)) V) := fun V hV => by
            have hz := HKr.out.1
            have h := IH.out 2 (St3.put ⟨s0, s1, s2, lk, bw⟩ (2 - 1) (lo + t)) K2 (k + pos t) V (by omega) ⟨by rw [St3.put_bw]; exact g1, by rw [St3.put_bw]; exact g2⟩ hK2B (Nat.le_trans hB (Nat.le_trans hz hV.size))
              (HE.out.stp K2 _ K2 _ _ wr V hK2B HJr.out (.below0 hV fun _ h => h.elim)) (fun j y hy => by
                rw [Nat.add_assoc]
                rw [← HPS.out t]
                exact HX.out _ y (flat_seg (ups_get hle) (by rw [hfn]; exact hy)))
            rw [HP1.out t hle, hfn, ← Nat.add_assoc]
            exact h
          have HC := Lib.hid hcall
          clear hcall hfn g1 g2 g3
          go_wp2_with (go_at_call 66; refine (HC.out _ (by (repeat first | with_reducible assumption | with_reducible exact Below.refl _ _ | (with_reducible refine Below.alloc ?_ ?side _; case side => (first | omega | (with_reducible exact Below.size (by assumption)) | (simp; done) | (simp; omega))) | (with_reducible refine Below.setCell ?_ ?side _; case side => (first | omega | (with_reducible exact Below.size (by assumption)) | (simp; done) | (simp; omega))) | with_reducible refine Below.drew ?_ | with_reducible refine below_drewN ?_ _ | (with_reducible refine below_step (by assumption) ?side ?_; case side => (first | omega | (with_reducible exact Below.size (by assumption)) | (simp; done) | (simp; omega)))))).mono ?_; rintro e w9 (⟨rfl, ⟨K3, k3, b3, hj9⟩, hk9⟩ | ⟨rfl, hx9⟩))
          · go_roundw
            case rel =>
              have hB1 := (Below.refl wr.heap.size wr).alloc (Nat.le_refl _) (.cells #[.int .i64 s0, .int .i64 (lo + t), .int .i64 s2, .int .i64 lk, .int .i64 (bw * (lo + t))] 92)
              refine ⟨t + 1, by omega, by go_num, K3, fun b h => k3 b (hK12 b h), b3, Lib.hid (hk9.blk (HBr.out.below hB1 ltb) (hK12 _ hK1w)), Lib.hid hj9, Lib.hid (HKr.out.chain hB1 hk9 fun b h => hK12 b (hKK1 b h))⟩
            case measure => simp [intOf]; omega
          · go_wp2_with fail
            go_ret
            exact .inr ⟨rfl, hx9⟩
        · have hqB : decide (lo + (t : Int) ≤ hi') = false := decide_eq_false hle
          have e : pos t = N := by rw [← HN.out]; congr 1; omega
          rw [e] at HJr
          clear e
          go_wp2_with fail
          go_ret
          exact .inl ⟨rfl, ⟨K2, fun b h => hK12 b (hKK1 b h), hK2B, HJr.out⟩, HKr.out⟩
    ·
      rw [show (((2 : Nat)) : Int) = 2 from rfl]
      have hB1 : decide ((2 : Int) < nl) = true := hB0
      go_enter Try.func66, Try.ntmps66
      go_upto_region 3 with (fail)
      go_name_world X hX
      have BX : Below w.heap.size w X := (al1 hX).1
      have zX : X.heap.size = w.heap.size + 1 := (al1 hX).2
      have l0' := (al1_0 hX).1
      have HBX : Hid (Blk X w.heap.size 92 #[.int .i64 s0, .int .i64 s1, .int .i64 s2, .int .i64 lk, .int .i64 bw]) := by rw [← hX]; exact Blk.new w _ _
      obtain ⟨K1, hK1⟩ : ∃ K1 : Nat → Prop, K1 = fun b => K b ∨ b = w.heap.size := ⟨_, rfl⟩
      have hK1B : ∀ b, K1 b → B ≤ b := by rw [hK1]; rintro b (h | rfl) <;> first | exact hK b h | exact hB
      have hKK1 : ∀ b, K b → K1 b := by rw [hK1]; exact fun b h => .inl h
      have hK1w : K1 w.heap.size := by rw [hK1]; exact .inr rfl
      have HJX : Hid (J K1 (fun _ => False) k X) := by
        refine HE.out.stp K (fun _ => False) K1 (fun _ => False) k w X hK HJ.out ?_
        exact ⟨BX.os, BX.tape, BX.output, BX.size, hKK1, fun b h => by rw [hK1] at h; exact h.imp_right fun e => by omega, fun b h => h.elim, fun b h => h.elim, fun j hj _ => BX.block j hj⟩
      have HKX := Lib.hid (KpO.of_below (K := K) BX)
      clear hX c0 x1 HM0 HJ
      go_loopw [9] (fun n (wr : World) => ∃ t : Nat, lo + t ≤ hi' + 1 ∧ n = .int .i64 (lo + t) ∧ ∃ K2 : Nat → Prop, (∀ b, K1 b → K2 b) ∧ (∀ b, K2 b → B ≤ b) ∧ Hid (Blk wr w.heap.size 92 #[.int .i64 s0, .int .i64 s1, .int .i64 s2, .int .i64 lk, .int .i64 bw]) ∧ Hid (J K2 (fun _ => False) (k + pos t) wr) ∧ Hid (KpO K w wr)) (fun n _ => (hi' + 1 - intOf n).toNat)
      case atStart => exact ⟨0, by omega, by simp, K1, fun _ h => h, hK1B, HBX, by rw [HP0]; exact HJX, HKX⟩
      case round =>
        obtain ⟨t, ht, rfl, K2, hK12, hK2B, HBr, HJr, HKr⟩ := hrel
        have MR := HE.out.mem _ _ _ _ HJr.out
        have cm := MR.blk.cell
        have ltm := MR.blk.lt
        obtain ⟨ba', bo', hA', hba', -, -, y2⟩ := MR.hl.get hin
        cases hA'
        rw [HHI.out] at y2
        have qb := HBr.out.cell
        have fb := HBr.out.frozen
        have ltb := HBr.out.lt
        clear MR
        by_cases hle : lo + t ≤ hi'
        · have hqB : decide (lo + (t : Int) ≤ hi') = true := decide_eq_true hle
          have g1 : 1 ≤ bw * (lo + (t : Int)) := Int.le_trans (by omega) (Int.mul_le_mul hs.1 (show (1 : Int) ≤ lo + (t : Int) by omega) (by omega) (by omega))
          have g2 : bw * (lo + (t : Int)) ≤ (1000 : Int) ^ 3 := by
            rw [Int.pow_succ]
            exact Int.mul_le_mul hs.2 (show lo + (t : Int) ≤ 1000 by omega) (by omega) (Int.pow_nonneg (by omega))
          have g3 : (1000 : Int) ^ 3 ≤ 1000000000 := by decide
          have w1 : IntKind.i64.wrap (bw * (lo + (t : Int))) = bw * (lo + (t : Int)) := IntWalk.i64_in _ (by omega)
          have w2 : IntKind.i64.wrap (lo + (t : Int) + 1) = lo + (t : Int) + 1 := IntWalk.i64_in _ (by omega)
          have hfn := HF.out (lo + t)
          have hcall : ∀ V, Below wr.heap.size wr V → Calls Try.prog 66 #[.pointer (some ⟨gm, 0, none⟩), .agg #[.int .i64 s0, .int .i64 s1, .int .i64 (lo + t), .int .i64 lk, .int .i64 (bw * (lo + t))], .int .i64 3, .func (.yield l) #[] #[]] V (SetPost J Jx B K2 (k + pos (t + 1)) V) := fun V hV => by
            have hz := HKr.out.1
            have h := IH.out 3 (St3.put ⟨s0, s1, s2, lk, bw⟩ (3 - 1) (lo + t)) K2 (k + pos t) V (by omega) ⟨by rw [St3.put_bw]; exact g1, by rw [St3.put_bw]; exact g2⟩ hK2B (Nat.le_trans hB (Nat.le_trans hz hV.size))
              (HE.out.stp K2 _ K2 _ _ wr V hK2B HJr.out (.below0 hV fun _ h => h.elim)) (fun j y hy => by
                rw [Nat.add_assoc]
                rw [← HPS.out t]
                exact HX.out _ y (flat_seg (ups_get hle) (by rw [hfn]; exact hy)))
            rw [HP1.out t hle, hfn, ← Nat.add_assoc]
            exact h
          have HC := Lib.hid hcall
          clear hcall hfn g1 g2 g3
          go_wp2_with (go_at_call 66; refine (HC.out _ (by (repeat first | with_reducible assumption | with_reducible exact Below.refl _ _ | (with_reducible refine Below.alloc ?_ ?side _; case side => (first | omega | (with_reducible exact Below.size (by assumption)) | (simp; done) | (simp; omega))) | (with_reducible refine Below.setCell ?_ ?side _; case side => (first | omega | (with_reducible exact Below.size (by assumption)) | (simp; done) | (simp; omega))) | with_reducible refine Below.drew ?_ | with_reducible refine below_drewN ?_ _ | (with_reducible refine below_step (by assumption) ?side ?_; case side => (first | omega | (with_reducible exact Below.size (by assumption)) | (simp; done) | (simp; omega)))))).mono ?_; rintro e w9 (⟨rfl, ⟨K3, k3, b3, hj9⟩, hk9⟩ | ⟨rfl, hx9⟩))
          · go_roundw
            case rel =>
              have hB1 := (Below.refl wr.heap.size wr).alloc (Nat.le_refl _) (.cells #[.int .i64 s0, .int .i64 s1, .int .i64 (lo + t), .int .i64 lk, .int .i64 (bw * (lo + t))] 92)
              refine ⟨t + 1, by omega, by go_num, K3, fun b h => k3 b (hK12 b h), b3, Lib.hid (hk9.blk (HBr.out.below hB1 ltb) (hK12 _ hK1w)), Lib.hid hj9, Lib.hid (HKr.out.chain hB1 hk9 fun b h => hK12 b (hKK1 b h))⟩
            case measure => simp [intOf]; omega
          · go_wp2_with fail
            go_ret
            exact .inr ⟨rfl, hx9⟩
        · have hqB : decide (lo + (t : Int) ≤ hi') = false := decide_eq_false hle
          have e : pos t = N := by rw [← HN.out]; congr 1; omega
          rw [e] at HJr
          clear e
          go_wp2_with fail
          go_ret
          exact .inl ⟨rfl, ⟨K2, fun b h => hK12 b (hKK1 b h), hK2B, HJr.out⟩, HKr.out⟩

end Go.Proofs.Ytcinhibmohkeiaa
