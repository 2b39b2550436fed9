/- from of stretch (layer 4): all lengths that the rods from one on can have, handed to a function; rods of stretch (layer 4): all lengths that the rods can have, handed to a function. -/
import Derived.Test.YtcbeiadimchknaaGreatQp16
import Derived.Test.YtcbeiadimchknaaGreatQp05
import Derived.Deep.DrawnRows
import Derived.Deep.DeepCutAuto
import Derived.Deep.RegionLaw
import Derived.BigRegionIn
import Derived.RangeFuncCalls
namespace Go.Proofs.YtcbeiadimchknaaGreat
open Go.RowKit
open Go.Sort (grow)
set_option linter.unusedVariables false
set_option linter.unusedSimpArgs false

def encW4 (u : W4) : Array Value := #[.agg #[.int .i64 u.w0, .int .i64 u.w1, .int .i64 u.w2, .int .i64 u.w3]]
/-- what is asked of the one that is handed the values -/
structure ItE {α : Type} (P : Program) (B l : Nat) (Mem : World → Prop) (xs : List α) (enc : α → Array Value) (J : (Nat → Prop) → (Nat → Prop) → Nat → World → Prop) (Jx : World → Prop) : Prop where
  mem : ∀ K O k W1, J K O k W1 → Mem W1
  stp : ∀ K O K' O' k W1 W2, (∀ b, K b → B ≤ b) → J K O k W1 → Stp K O K' O' W1 W2 → J K' O' k W2
  yld : ∀ K O k x W1, (∀ b, K b → B ≤ b) → (∀ b, O b → K b) → xs[k]? = some x → J K O k W1 → YieldW P l (enc x) W1 fun e W' => (e = .returned (.bool true) ∧ J K O (k + 1) W' ∧ KpO K W1 W') ∨ (e = .returned (.bool false) ∧ Jx W' ∧ KpO K W1 W')
/-- what is left behind: the own blocks that may still be written are those of before -/
def ItPost (J : (Nat → Prop) → (Nat → Prop) → Nat → World → Prop) (Jx : World → Prop) (B : Nat) (K O : Nat → Prop) (k : Nat) (w : World) (e : Ending) (W' : World) : Prop :=
  (e = .returned (.bool true) ∧ (∃ K', (∀ b, K b → K' b) ∧ (∀ b, K' b → B ≤ b) ∧ J K' O k W') ∧ KpO K w W') ∨ (e = .returned (.bool false) ∧ Jx W')
theorem blk_put {W : World} {g i : Nat} {t : TypeId} {u : W4} {n : Int} (h : Blk W g t #[.int .i64 u.w0, .int .i64 u.w1, .int .i64 u.w2, .int .i64 u.w3]) (hi : i < 4) :
    Blk (W.setCell ⟨g, i, none⟩ (.int .i64 n)) g t #[.int .i64 (u.put i n).w0, .int .i64 (u.put i n).w1, .int .i64 (u.put i n).w2, .int .i64 (u.put i n).w3] := by
  have := h.set_ i (.int .i64 n)
  obtain rfl | rfl | rfl | rfl : i = 0 ∨ i = 1 ∨ i = 2 ∨ i = 3 := by omega
  all_goals simpa [W4.put] using this
theorem W4.put_put {u : W4} {i : Nat} {m n : Int} : (u.put i m).put i n = u.put i n := by unfold W4.put; match i with | 0 => rfl | 1 => rfl | 2 => rfl | _ + 3 => rfl
theorem at_w4 {u : W4} {q : Nat} (h : q < 4) : (#[Value.int .i64 u.w0, Value.int .i64 u.w1, Value.int .i64 u.w2, Value.int .i64 u.w3] : Array Value)[q]? = some (.int .i64 (u.at_ q)) := by
  obtain rfl | rfl | rfl | rfl : q = 0 ∨ q = 1 ∨ q = 2 ∨ q = 3 := by omega
  all_goals rfl
/-- what is left to do, by what the box holds -/
def lkI (g i : Nat) (l1 : Int) (w : World) : Nat := match w.cell? ⟨g, i, none⟩ with | some (.int _ x) => (l1 + 1 - x).toNat | _ => 0
theorem lkI_eq {g i : Nat} {l1 x : Int} {w : World} (h : w.cell? ⟨g, i, none⟩ = some (.int .i64 x)) : lkI g i l1 w = (l1 + 1 - x).toNat := by unfold lkI; rw [h]
set_option maxRecDepth 100000 in
set_option maxHeartbeats 3200000 in
theorem from0_c (Ar : Option Addr) (nr cr : Nat) (Ad : Option Addr) (nd cd : Nat) (p : P4) (ok : Ok4 nr nd p) (l B : Nat) (xs : List W4) (J : (Nat → Prop) → (Nat → Prop) → Nat → World → Prop) (Jx : World → Prop)
    (E : ItE Tryz.prog B l (MemP Ar nr Ad nd p) xs encW4 J Jx) (u : W4) (K O : Nat → Prop) (k : Nat) (w : World) (hK : ∀ b, K b → B ≤ b) (hOK : ∀ b, O b → K b) (hB : B ≤ w.heap.size) (hJ : J K O k w) (hx : xs[k]? = some u) :
    Calls Tryz.prog 122 #[.agg #[.int .i64 p.ir, .int .i64 p.glo, .int .i64 p.ghi, .slice Ar nr cr, .slice Ad nd cd, .int .i64 p.wr], .int .i64 nr, .agg #[.int .i64 u.w0, .int .i64 u.w1, .int .i64 u.w2, .int .i64 u.w3], .func (.yield l) #[] #[]] w (ItPost J Jx B K O (k + 1) w) := by
  have HE := Lib.hid E
  have HX := Lib.hid hx
  have HJ := Lib.hid hJ
  have hnB : ((nr : Int) == nr) = true := by simp
  have hnr := ok.nr4
  clear E hx hJ ok
  go_enter Tryz.func122, Tryz.ntmps122
  go_upto_region 1 with (fail)
  go_name_world X hX
  have BX : Below w.heap.size w X := (al2 hX).1
  have q0 := (al2_0 hX).2.1
  have l0 := (al2_0 hX).1
  have q1 := (al2_1 hX).2.1
  have l1 := (al2_1 hX).1
  clear hX
  have HJX := Lib.hid (HE.out.stp K O K O k w X hK HJ.out (.below0 BX hOK))
  obtain ⟨fn, tmps, assign, body, hy, hR⟩ := HE.out.yld K O k u X hK hOK HX.out HJX.out
  have HY := Lib.hid hy
  clear hy
  go_upto_region 2 with (fail)
  refine (Go.wpIn_wide (n := 3)).1 ?_
  have hy := HY.out
  unfold encW4 at hy
  gi_wp2
  refine (hR _).mono ?_
  rintro e W4 (⟨rfl, hJ4, hK4⟩ | ⟨rfl, hJ4, -⟩)
  · have HJ4 := Lib.hid hJ4
    have HK4 : Hid (KpO K w W4) := Lib.hid (hK4.of_lower BX)
    clear hJ4 hK4 hR hy
    gi_wp2_with fail
    go_wp2_with fail
    go_ret
    exact .inl ⟨rfl, ⟨K, fun b h => h, hK, HJ4.out⟩, HK4.out⟩
  · have HJ4 := Lib.hid hJ4
    clear hJ4 hR hy
    gi_wp2_with fail
    go_wp2_with fail
    go_ret
    exact .inr ⟨rfl, HJ4.out⟩
set_option maxRecDepth 100000 in
set_option maxHeartbeats 3200000 in
theorem from_c (Ar : Option Addr) (nr cr : Nat) (Ad : Option Addr) (nd cd : Nat) (p : P4) (ok : Ok4 nr nd p) (l B : Nat) (xs : List W4) (J : (Nat → Prop) → (Nat → Prop) → Nat → World → Prop) (Jx : World → Prop)
    (E : ItE Tryz.prog B l (MemP Ar nr Ad nd p) xs encW4 J Jx) : ∀ (r i : Nat) (u : W4) (K O : Nat → Prop) (k : Nat) (w : World), i + r = nr → (∀ b, K b → B ≤ b) → (∀ b, O b → K b) → B ≤ w.heap.size → J K O k w → (∀ j y, (wo4 p.rods i r u)[j]? = some y → xs[k + j]? = some y) →
    Calls Tryz.prog 122 #[.agg #[.int .i64 p.ir, .int .i64 p.glo, .int .i64 p.ghi, .slice Ar nr cr, .slice Ad nd cd, .int .i64 p.wr], .int .i64 i, .agg #[.int .i64 u.w0, .int .i64 u.w1, .int .i64 u.w2, .int .i64 u.w3], .func (.yield l) #[] #[]] w (ItPost J Jx B K O (k + (wo4 p.rods i r u).length) w) := by
  intro r
  induction r with
  | zero =>
    intro i u K O k w hi hK hOK hB hJ hx
    obtain rfl : i = nr := by omega
    exact from0_c Ar i cr Ad nd cd p ok l B xs J Jx E u K O k w hK hOK hB hJ (hx 0 u rfl)
  | succ r ih =>
    intro i u K O k w hi hK hOK hB hJ hx
    have hin : i < nr := by omega
    have hnr := ok.nr4
    have hro := ok.ro i hin
    obtain ⟨lg, hlg⟩ : ∃ x, (roAt p.rods i).lg = x := ⟨_, rfl⟩
    obtain ⟨we, hwe⟩ : ∃ x, (roAt p.rods i).we = x := ⟨_, rfl⟩
    rw [hlg, hwe] at hro
    obtain ⟨lo, hlo⟩ : ∃ x, lg - we = x := ⟨_, rfl⟩
    have hst : wo4 p.rods i (r + 1) u = (ups lo lg).flatMap fun n => wo4 p.rods (i + 1) r (u.put i n) := by rw [← hlo, ← hlg, ← hwe]; rfl
    rw [hst] at hx ⊢
    have HX := Lib.hid hx
    have HE := Lib.hid E
    have IH := Lib.hid ih
    have M0 := E.mem _ _ _ _ hJ
    have HJ := Lib.hid hJ
    obtain ⟨ba, bo, hA, hba, x0, x1, x2⟩ := M0.hr.get hin
    rw [hlg] at x0
    rw [hwe] at x1
    have hB0 : ((i : Int) == nr) = false := by simp; omega
    have hloB : 0 ≤ lo ∧ lo ≤ lg ∧ lg ≤ 9999 := by omega
    have w1 : IntKind.i64.wrap (lg - we) = lo := by rw [hlo]; exact IntWalk.i64_in _ (by omega)
    have w2 : IntKind.i64.wrap ((i : Int) + 1) = ((i + 1 : Nat) : Int) := by rw [IntWalk.i64_in _ (by omega)]; omega
    subst hA
    clear E ok hx ih hJ M0 hst hlg hwe hlo
    obtain ⟨f, hf⟩ : ∃ f, (fun n => wo4 p.rods (i + 1) r (u.put i n)) = f := ⟨_, rfl⟩
    have HF := Lib.hid (fun n => (congrFun hf n).symm)
    rw [hf] at HX ⊢
    obtain ⟨pos, hps⟩ : ∃ pos : Nat → Nat, (fun t => (((ups lo lg).take t).flatMap f).length) = pos := ⟨_, rfl⟩
    have HPS := Lib.hid (fun t => congrFun hps t)
    obtain ⟨N, hN⟩ : ∃ N, ((ups lo lg).flatMap f).length = N := ⟨_, rfl⟩
    have HN : Hid (pos (lg - lo + 1).toNat = N) := Lib.hid (by rw [← hps, ← hN]; show (((ups lo lg).take _).flatMap f).length = _; rw [List.take_of_length_le (by rw [ups_len]; omega)])
    have HP0 : pos 0 = 0 := by rw [← hps]; rfl
    have HP1 := Lib.hid (fun (t : Nat) (h : lo + (t : Int) ≤ lg) => show pos (t + 1) = pos t + (f (lo + t)).length by rw [← hps]; show (((ups lo lg).take (t + 1)).flatMap f).length = (((ups lo lg).take t).flatMap f).length + _; rw [take_one (f := f) (ups_get h), List.length_append])
    rw [hN]
    clear hf hps hN
    go_enter Tryz.func122, Tryz.ntmps122
    go_upto_region 4 with (fail)
    go_name_world X hX
    have BX : Below w.heap.size w X := (al3 hX).1
    have zX := (al3 hX).2
    have HB0 : Hid (Blk X w.heap.size 96 #[.int .i64 p.ir, .int .i64 p.glo, .int .i64 p.ghi, .slice (some ⟨ba, bo, none⟩) nr cr, .slice Ad nd cd, .int .i64 p.wr]) := by rw [← hX]; exact ((Blk.new w _ _).alloc _).alloc _
    have HB1 : Hid (Blk X (w.heap.size + 1) 101 #[.int .i64 u.w0, .int .i64 u.w1, .int .i64 u.w2, .int .i64 u.w3]) := by
      rw [← hX]
      have := Blk.new (w.alloc (.cells #[.int .i64 p.ir, .int .i64 p.glo, .int .i64 p.ghi, .slice (some ⟨ba, bo, none⟩) nr cr, .slice Ad nd cd, .int .i64 p.wr] 96)) 101 #[.int .i64 u.w0, .int .i64 u.w1, .int .i64 u.w2, .int .i64 u.w3]
      rw [World.size_alloc] at this
      exact this.alloc _
    have q2 := (al3_2 hX).2.1
    have f1 := (al3_1 hX).2.2
    have f2 := (al3_2 hX).2.2
    have HB2 : Hid (Blk X (w.heap.size + 1 + 1) 94 #[.int .i64 lg, .int .i64 we, .int .i64 (roAt p.rods i).gr]) := by
      rw [← hX]
      have := Blk.new ((w.alloc (.cells #[.int .i64 p.ir, .int .i64 p.glo, .int .i64 p.ghi, .slice (some ⟨ba, bo, none⟩) nr cr, .slice Ad nd cd, .int .i64 p.wr] 96)).alloc (.cells #[.int .i64 u.w0, .int .i64 u.w1, .int .i64 u.w2, .int .i64 u.w3] 101)) 94 #[.int .i64 lg, .int .i64 we, .int .i64 (roAt p.rods i).gr]
      rw [World.size_alloc, World.size_alloc] at this
      exact this
    obtain ⟨K1, hK1⟩ : ∃ K1 : Nat → Prop, K1 = fun b => K b ∨ b = w.heap.size ∨ b = w.heap.size + 1 ∨ b = w.heap.size + 1 + 1 := ⟨_, rfl⟩
    obtain ⟨O1, hO1⟩ : ∃ O1 : Nat → Prop, O1 = fun b => O b ∨ b = w.heap.size + 1 := ⟨_, rfl⟩
    have hK1B : ∀ b, K1 b → B ≤ b := by rw [hK1]; rintro b (h | h) <;> first | exact hK b h | omega
    have hOK1 : ∀ b, O1 b → K1 b := by rw [hK1, hO1]; rintro b (h | h); exact .inl (hOK b h); exact .inr (.inr (.inl h))
    have hKK1 : ∀ b, K b → K1 b := by rw [hK1]; exact fun b h => .inl h
    have hOO1 : ∀ b, O b → O1 b := by rw [hO1]; exact fun b h => .inl h
    have hK1w : K1 w.heap.size ∧ K1 (w.heap.size + 1) ∧ K1 (w.heap.size + 1 + 1) := by rw [hK1]; exact ⟨.inr (.inl rfl), .inr (.inr (.inl rfl)), .inr (.inr (.inr rfl))⟩
    have hO1w : O1 (w.heap.size + 1) := by rw [hO1]; exact .inr rfl
    have HJX : Hid (J K1 O1 k X) := by
      refine HE.out.stp K O K1 O1 k w X hK HJ.out ?_
      exact ⟨BX.os, BX.tape, BX.output, BX.size, hKK1, fun b h => by rw [hK1] at h; exact h.imp_right fun e => by omega, fun b h => by rw [hO1] at h; exact h.imp_right fun e => by omega, hOK1, fun j hj _ => BX.block j hj⟩
    have HKX := Lib.hid (KpO.of_below (K := K) BX)
    have HOO := Lib.hid (show ∀ b, O1 b → O b ∨ w.heap.size ≤ b from fun b h => by rw [hO1] at h; exact h.imp_right fun e => by omega)
    have l1 : w.heap.size + 1 < X.heap.size := by omega
    have l2 : w.heap.size + 1 + 1 < X.heap.size := by omega
    have ZX := Lib.hid zX
    clear hX x0 x1 x2 HJ hK1 hO1 zX
    have hi4 : i < 4 := by omega
    have q1 := HB1.out.cell
    go_upto_region 5 with (fail)
    go_name_world Y hY
    have HJY : Hid (J K1 O1 k Y) := by
      rw [← hY]
      exact Lib.hid (HE.out.stp K1 O1 K1 O1 k X _ hK1B HJX.out (.set hO1w hOK1 _))
    have HBY0 : Hid (Blk Y w.heap.size 96 #[.int .i64 p.ir, .int .i64 p.glo, .int .i64 p.ghi, .slice (some ⟨ba, bo, none⟩) nr cr, .slice Ad nd cd, .int .i64 p.wr]) := by
      rw [← hY]; exact Lib.hid (HB0.out.far (by show w.heap.size ≠ w.heap.size + 1; omega) _)
    have HBY2 : Hid (Blk Y (w.heap.size + 1 + 1) 94 #[.int .i64 lg, .int .i64 we, .int .i64 (roAt p.rods i).gr]) := by
      rw [← hY]; exact Lib.hid (HB2.out.far (by show w.heap.size + 1 + 1 ≠ w.heap.size + 1; omega) _)
    have HBY1 : Hid (Blk Y (w.heap.size + 1) 101 #[.int .i64 (u.put i (lo + (0 : Nat))).w0, .int .i64 (u.put i (lo + (0 : Nat))).w1, .int .i64 (u.put i (lo + (0 : Nat))).w2, .int .i64 (u.put i (lo + (0 : Nat))).w3]) := by
      rw [← hY]
      have := blk_put (n := lo) HB1.out hi4
      refine Lib.hid ?_
      simpa using this
    have HKY : Hid (KpO K w Y) := by
      rw [← hY]
      exact HKX.out.then_set (by simp) _
    clear hY q1 q2 f1 f2 HB0 HB1 HB2 HJX HKX
    go_loopw [] (fun (wr : World) => ∃ (t : Nat) (K2 : Nat → Prop), lo + t ≤ lg + 1 ∧ (∀ b, K1 b → K2 b) ∧ (∀ b, K2 b → B ≤ b) ∧ Hid (Blk wr w.heap.size 96 #[.int .i64 p.ir, .int .i64 p.glo, .int .i64 p.ghi, .slice (some ⟨ba, bo, none⟩) nr cr, .slice Ad nd cd, .int .i64 p.wr]) ∧ Hid (Blk wr (w.heap.size + 1) 101 #[.int .i64 (u.put i (lo + t)).w0, .int .i64 (u.put i (lo + t)).w1, .int .i64 (u.put i (lo + t)).w2, .int .i64 (u.put i (lo + t)).w3])
      ∧ Hid (Blk wr (w.heap.size + 1 + 1) 94 #[.int .i64 lg, .int .i64 we, .int .i64 (roAt p.rods i).gr]) ∧ Hid (J K2 O1 (k + pos t) wr) ∧ Hid (KpO K w wr)) (fun wr => lkI (w.heap.size + 1) i lg wr)
    case atStart => exact ⟨0, K1, by omega, fun _ h => h, hK1B, HBY0, HBY1, HBY2, by rw [HP0]; exact HJY, HKY⟩
    case round =>
      obtain ⟨t, K2, ht, hK12, hK2B, HR0, HR1, HR2, HJr, HKr⟩ := hrel
      obtain ⟨u', hu'⟩ : ∃ x, u.put i (lo + (t : Int)) = x := ⟨_, rfl⟩
      rw [hu'] at HR1
      have hat : u'.at_ i = lo + t := by rw [← hu', W4.at_put]
      have ci := (HR1.out.cell i).trans (at_w4 hi4)
      rw [hat] at ci
      have fb := HR1.out.frozen
      have lb := HR1.out.lt
      have c2 := HR2.out.cell
      have l2' := HR2.out.lt
      have c0 := HR0.out.cell
      have l0' := HR0.out.lt
      have HU := Lib.hid hu'
      have HAT := Lib.hid hat
      have HMS := Lib.hid (lkI_eq (l1 := lg) ci)
      clear hat hu'
      by_cases hle : lo + t ≤ lg
      · have hqB : decide (lo + (t : Int) ≤ lg) = true := decide_eq_true hle
        go_upto_region 5 with (fail)
        have hcq := fun p : Regrown => (bcell (below_regrown wr p.d p.os)).1
        refine wp_region_quiet_below (by kernel_rfl) (by kernel_rfl) ?_
        repeat (go_big_quiet_step ((fail)))
        refine wpQuiet_nil ?_
        intro wq hq
        obtain ⟨pq, hq⟩ := hq
        have hbq : Below wr.heap.size wr wq := by rw [hq]; exact below_regrown _ _ _
        clear hq hcq pq
        obtain ⟨hcq, hfq⟩ := bcell hbq
        have zq := hbq.size
        have HQ0 := Lib.hid (HR0.out.below hbq HR0.out.lt)
        have HQ1 := Lib.hid (HR1.out.below hbq HR1.out.lt)
        have HQ2 := Lib.hid (HR2.out.below hbq HR2.out.lt)
        have HOK1 := Lib.hid (fun b (h : O1 b) => hK12 b (hOK1 b h))
        have HJQ := Lib.hid (HE.out.stp K2 O1 K2 O1 _ wr wq hK2B HJr.out (.below0 hbq HOK1.out))
        have HKQ := Lib.hid (HKr.out.then_below hbq)
        have d0 := HQ0.out.cell
        have d1 := HQ1.out.cell
        have d2 := HQ2.out.cell
        have m0 := HQ0.out.lt
        have m1 := HQ1.out.lt
        have m2 := HQ2.out.lt
        clear hcq hfq hbq ci c2 c0 fb zq HR0 HR1 HR2 HJr HKr
        have hfn := HF.out (lo + t)
        rw [HU.out] at hfn
        have hcall : ∀ V, Below wq.heap.size wq V → Calls Tryz.prog 122 #[.agg #[.int .i64 p.ir, .int .i64 p.glo, .int .i64 p.ghi, .slice (some ⟨ba, bo, none⟩) nr cr, .slice Ad nd cd, .int .i64 p.wr], .int .i64 ((i + 1 : Nat) : Int), .agg #[.int .i64 u'.w0, .int .i64 u'.w1, .int .i64 u'.w2, .int .i64 u'.w3], .func (.yield l) #[] #[]] V (ItPost J Jx B K2 O1 (k + pos (t + 1)) V) := fun V hV => by
          have hz := HKQ.out.1
          have h := IH.out (i + 1) u' K2 O1 (k + pos t) V (by omega) hK2B HOK1.out (Nat.le_trans hB (Nat.le_trans hz hV.size))
            (HE.out.stp K2 O1 K2 O1 _ wq V hK2B HJQ.out (.below0 hV HOK1.out)) (fun j y hy => by
              rw [Nat.add_assoc]
              rw [← HPS.out t]
              exact HX.out _ y (flat_seg (ups_get hle) (by rw [hfn]; exact hy)))
          rw [HP1.out t hle, hfn, ← Nat.add_assoc]
          exact h
        have HC := Lib.hid hcall
        have w3 : IntKind.i64.wrap (lo + (t : Int) + 1) = lo + (t : Int) + 1 := IntWalk.i64_in _ (by omega)
        clear hcall hfn
        go_wp2_with (go_at_call 122; refine (HC.out _ (by (repeat first | with_reducible assumption | with_reducible exact Below.refl _ _ | (with_reducible refine Below.alloc ?_ ?side _; case side => (first | omega | (with_reducible exact Below.size (by assumption)) | (simp; done) | (simp; omega))) | (with_reducible refine Below.setCell ?_ ?side _; case side => (first | omega | (with_reducible exact Below.size (by assumption)) | (simp; done) | (simp; omega))) | with_reducible refine Below.drew ?_ | with_reducible refine below_drewN ?_ _ | (with_reducible refine below_step (by assumption) ?side ?_; case side => (first | omega | (with_reducible exact Below.size (by assumption)) | (simp; done) | (simp; omega)))))).mono ?_; (rintro e w9 (⟨rfl, ⟨K3, k3, b3, hj9⟩, hk9⟩ | ⟨rfl, hx9⟩)); (have HB9 := Lib.hid (hk9.blk HQ1.out (hK12 _ hK1w.2.1))); (have c9 := (HB9.out.cell i).trans (at_w4 hi4)); (rw [HAT.out] at c9); (have f9 := HB9.out.frozen); (have l9 := HB9.out.lt); (have HA9 := Lib.hid (hk9.blk HQ0.out (hK12 _ hK1w.1))); (have HC9 := Lib.hid (hk9.blk HQ2.out (hK12 _ hK1w.2.2))); (have HJ9 := Lib.hid hj9); (have HK9 := Lib.hid (HKQ.out.chain (Below.refl _ _) hk9 (fun b h => hK12 b (hKK1 b h)))); clear hj9 hk9)
        · go_roundw
          case rel =>
            have hz := HKQ.out.1
            refine ⟨t + 1, K3, by omega, fun b h => k3 b (hK12 b h), b3, Lib.hid (HA9.out.far (by show w.heap.size ≠ w.heap.size + 1; omega) _), Lib.hid ?_, Lib.hid (HC9.out.far (by show w.heap.size + 1 + 1 ≠ w.heap.size + 1; omega) _), Lib.hid ?_, Lib.hid (HK9.out.then_set (by simp) _)⟩
            · have := blk_put (n := lo + (t : Int) + 1) HB9.out hi4
              rw [← HU.out, W4.put_put] at this
              rw [show lo + ((t + 1 : Nat) : Int) = lo + (t : Int) + 1 by omega]
              exact this
            · exact HE.out.stp K3 O1 K3 O1 _ w9 _ b3 HJ9.out (.set hO1w (fun b h => k3 b (HOK1.out b h)) _)
          case measure =>
            rw [HMS.out]
            have := blk_put (n := lo + (t : Int) + 1) HB9.out hi4
            rw [lkI_eq (((this.cell i).trans (at_w4 hi4)).trans (by rw [W4.at_put]))]
            omega
        · go_wp2_with fail
          go_ret
          exact .inr ⟨rfl, hx9⟩
      · have hqB : decide (lo + (t : Int) ≤ lg) = false := decide_eq_false hle
        go_upto_region 5 with (fail)
        have hcq := fun p : Regrown => (bcell (below_regrown wr p.d p.os)).1
        refine wp_region_quiet_below (by kernel_rfl) (by kernel_rfl) ?_
        repeat (go_big_quiet_step ((fail)))
        refine wpQuiet_nil ?_
        intro wq hq
        obtain ⟨pq, hq⟩ := hq
        have hbq : Below wr.heap.size wr wq := by rw [hq]; exact below_regrown _ _ _
        clear hq hcq pq
        obtain ⟨hcq, hfq⟩ := bcell hbq
        have zq := hbq.size
        have HQ0 := Lib.hid (HR0.out.below hbq HR0.out.lt)
        have HQ1 := Lib.hid (HR1.out.below hbq HR1.out.lt)
        have HQ2 := Lib.hid (HR2.out.below hbq HR2.out.lt)
        have HOK1 := Lib.hid (fun b (h : O1 b) => hK12 b (hOK1 b h))
        have HJQ := Lib.hid (HE.out.stp K2 O1 K2 O1 _ wr wq hK2B HJr.out (.below0 hbq HOK1.out))
        have HKQ := Lib.hid (HKr.out.then_below hbq)
        have d0 := HQ0.out.cell
        have d1 := HQ1.out.cell
        have d2 := HQ2.out.cell
        have m0 := HQ0.out.lt
        have m1 := HQ1.out.lt
        have m2 := HQ2.out.lt
        clear hcq hfq hbq ci c2 c0 fb zq HR0 HR1 HR2 HJr HKr
        have e : pos t = N := by rw [← HN.out]; congr 1; omega
        rw [e] at HJQ
        clear e
        go_wp2_with fail
        go_ret
        exact .inl ⟨rfl, ⟨K2, fun b h => hK12 b (hKK1 b h), hK2B, HE.out.stp K2 O1 K2 O _ wq wq hK2B HJQ.out ⟨rfl, rfl, rfl, Nat.le_refl _, fun _ h => h, fun _ h => .inl h, fun b h => .inl (hOO1 b h), fun b h => HOK1.out b (hOO1 b h), fun _ _ _ => rfl⟩⟩, HKQ.out⟩

end Go.Proofs.YtcbeiadimchknaaGreat

namespace Go.Proofs.YtcbeiadimchknaaGreat
open Go.RowKit
open Go.Sort (grow)
set_option linter.unusedVariables false
set_option linter.unusedSimpArgs false

set_option maxRecDepth 100000 in
set_option maxHeartbeats 1600000 in
theorem rods_c (Ar : Option Addr) (nr cr : Nat) (Ad : Option Addr) (nd cd : Nat) (p : P4) (ok : Ok4 nr nd p) :
    IterO Tryz.prog 112 #[.agg #[.int .i64 p.ir, .int .i64 p.glo, .int .i64 p.ghi, .slice Ar nr cr, .slice Ad nd cd, .int .i64 p.wr]] #[] (MemP Ar nr Ad nd p) (ws4 p) (fun _ _ x args _ => args = encW4 x) := by
  intro l J Jx W hM hS _ hY h0
  have E : ItE Tryz.prog W.heap.size l (MemP Ar nr Ad nd p) (ws4 p) encW4 J Jx :=
    ⟨hM, fun K O K' O' k W1 W2 a b c => hS K O K' O' k W1 W2 a b c, fun K O k x W1 hK hO hx hJ => hY K O k x _ W1 hK hO hx hJ rfl⟩
  obtain ⟨xs, hxs⟩ : ∃ xs, ws4 p = xs := ⟨_, rfl⟩
  have hw : wo4 p.rods 0 nr ⟨0, 0, 0, 0⟩ = xs := by rw [← hxs, ← ok.lr]; rfl
  rw [hxs] at E ⊢
  have HC := Lib.hid (fun V (hV : Below W.heap.size W V) => from_c Ar nr cr Ad nd cd p ok l W.heap.size xs J Jx E nr 0 ⟨0, 0, 0, 0⟩ (fun _ => False) (fun _ => False) 0 V (by omega) (fun _ h => h.elim) (fun _ h => h) hV.size
    (hS _ _ _ _ _ W V (fun _ h => h.elim) h0 (.below0 hV (fun _ h => h))) (fun j y hy => by rw [hw] at hy; rwa [Nat.zero_add]))
  rw [hw, Nat.zero_add, show (((0 : Nat)) : Int) = 0 from rfl] at HC
  clear hM hS hY h0 E hw hxs
  show Calls Tryz.prog 112 #[.agg #[.int .i64 p.ir, .int .i64 p.glo, .int .i64 p.ghi, .slice Ar nr cr, .slice Ad nd cd, .int .i64 p.wr], .func (.yield l) #[] #[]] W _
  go_enter Tryz.func112, Tryz.ntmps112
  go_wp2_with (go_at_call 122; refine (HC.out _ (by (repeat first | with_reducible assumption | with_reducible exact Below.refl _ _ | (with_reducible refine Below.alloc ?_ ?side _; case side => (first | omega | (with_reducible exact Below.size (by assumption)) | (simp; done) | (simp; omega))) | (with_reducible refine Below.setCell ?_ ?side _; case side => (first | omega | (with_reducible exact Below.size (by assumption)) | (simp; done) | (simp; omega))) | with_reducible refine Below.drew ?_ | with_reducible refine below_drewN ?_ _ | (with_reducible refine below_step (by assumption) ?side ?_; case side => (first | omega | (with_reducible exact Below.size (by assumption)) | (simp; done) | (simp; omega)))))).mono ?_; rintro e w9 (⟨rfl, ⟨K3, k3, b3, hj9⟩, hk9⟩ | ⟨rfl, hx9⟩))
  · go_end0
    exact ⟨⟨_, rfl⟩, .inl ⟨K3, _, b3, hj9⟩⟩
  · go_end0
    exact ⟨⟨_, rfl⟩, .inr hx9⟩

end Go.Proofs.YtcbeiadimchknaaGreat
