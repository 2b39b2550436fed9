/- The closures of Check (layer 5); The second closure of Check (layer 5): comparisons; Check of checks (layer 5); The example of the statements (layer 5). -/
import Derived.Test.YtcinhibmohkeiaaQy14
import Derived.Shelf.Abstract
import Derived.Laws.EntriesVeiled
import Derived.Handy
import Derived.Deep.DrawnRows
import Derived.Deep.DeepCutAuto
import Derived.Test.YtcinhibmohkeiaaQy06
namespace Go.Proofs.Ytcinhibmohkeiaa
open Go.RowKit
open Go.Sort (grow)
set_option linter.unusedVariables false
set_option linter.unusedSimpArgs false

def ckS5 (s : Sp) : Bool := wn s.lo (-60) s.hi && !decide (60 < s.hi)
set_option maxHeartbeats 800000 in
theorem badSp_c (s : Sp) (w : World) :
    Calls Try.prog 45 #[.agg #[.int .i64 s.lo, .int .i64 s.hi]] w fun e w' => e = .returned (.bool (!ckS5 s)) ∧ Below w.heap.size w w' := by
  unfold ckS5
  obtain ⟨lo, hi⟩ := s
  simp only
  have c1 := fun V => within5_c lo (-60) hi V
  cases e1 : wn lo (-60) hi <;> rw [e1] at c1 <;> replace c1 := Lib.hid c1 <;> clear e1 <;> by_cases g : 60 < hi
  all_goals
    first | (have gB : decide (60 < hi) = true := decide_eq_true g; rw [gB]) | (have gB : decide (60 < hi) = false := decide_eq_false g; rw [gB])
    go_enter Try.func45, Try.ntmps45
    go_upto_region 1 with (fail)
    go_name_world X hX
    have BX := Lib.hid (al1 hX).1
    have q0 := (al1_0 hX).2.1
    have l0 := (al1_0 hX).1
    clear hX
    go_wp2_with (go_at_call 23; refine (c1.out _).mono ?_; rintro e w' ⟨rfl, rfl⟩)
    go_ret
    exact ⟨rfl, BX.out⟩

end Go.Proofs.Ytcinhibmohkeiaa

namespace Go.Proofs.Ytcinhibmohkeiaa
open Go.RowKit
open Go.Sort (grow)
set_option linter.unusedVariables false
set_option linter.unusedSimpArgs false

def ckC5 (nm : Nat) (c : Cm5) : Bool := wn c.a 0 ((nm : Int) - 1) && (wn c.b 0 ((nm : Int) - 1) && (!(c.a == c.b) && (wn c.lo (-120) c.hi && !decide (120 < c.hi))))
set_option maxRecDepth 100000 in
set_option maxHeartbeats 3200000 in
theorem badCm_c (gy : Nat) (A : Option Addr) (n c : Nat) (B : Option Addr) (m d : Nat) (wr : Int) (x : Cm5) (w : World) (hn : n ≤ 1000) (HY : Blk w gy 51 #[.slice A n c, .slice B m d, .int .i64 wr]) :
    Calls Try.prog 46 #[.agg #[.int .i64 x.a, .int .i64 x.b, .int .i64 x.lo, .int .i64 x.hi], .pointer (some ⟨gy, 0, none⟩)] w fun e w' => e = .returned (.bool (!ckC5 n x)) ∧ Below w.heap.size w w' := by
  unfold ckC5
  obtain ⟨a, b, lo, hi⟩ := x
  simp only
  have HYI := Lib.hid HY
  clear HY
  have c1 := fun V => isMachine_c A n c B m d wr a V hn
  have c2 := fun V => isMachine_c A n c B m d wr b V hn
  have c3 := fun V => within5_c lo (-120) hi V
  obtain ⟨u1, e1⟩ : ∃ u, wn a 0 ((n : Int) - 1) = u := ⟨_, rfl⟩
  obtain ⟨u2, e2⟩ : ∃ u, wn b 0 ((n : Int) - 1) = u := ⟨_, rfl⟩
  obtain ⟨u4, e4⟩ : ∃ u, wn lo (-120) hi = u := ⟨_, rfl⟩
  rw [e1] at c1 ⊢
  rw [e2] at c2 ⊢
  rw [e4] at c3 ⊢
  clear e1 e2 e4
  obtain ⟨u3, e3⟩ : ∃ u, (a == b) = u := ⟨_, rfl⟩
  obtain ⟨u5, e5⟩ : ∃ u, decide (120 < hi) = u := ⟨_, rfl⟩
  rw [e3, e5]
  cases u1 <;> cases u2 <;> cases u3 <;> cases u4 <;> cases u5 <;> replace c1 := Lib.hid c1 <;> replace c2 := Lib.hid c2 <;> replace c3 := Lib.hid c3
  all_goals
    go_enter Try.func46, Try.ntmps46
    go_upto_region 1 with (fail)
    go_name_world X hX
    have BX := Lib.hid (al1 hX).1
    have HC0 : Hid (Blk X w.heap.size 48 #[.int .i64 a, .int .i64 b, .int .i64 lo, .int .i64 hi]) := by rw [← hX]; exact Lib.hid (Blk.new w _ _)
    have HY0 := Lib.hid (HYI.out.below (al1 hX).1 HYI.out.lt)
    have q0 := HC0.out.cell
    have l0 := HC0.out.lt
    have y0 := HY0.out.cell
    have k0 := HY0.out.lt
    clear hX
    go_wp2_with (first | (go_at_call 31; (with_reducible refine (c1.out _).mono ?_); (rintro e v1 ⟨rfl, hb⟩); (have HC1 := Lib.hid (HC0.out.below hb HC0.out.lt)); (have HY1 := Lib.hid (HY0.out.below hb HY0.out.lt)); (have q1 := HC1.out.cell); (have l1 := HC1.out.lt); (have y1 := HY1.out.cell); (have k1 := HY1.out.lt); (have B1 := Lib.hid (BX.out.trans (hb.mono BX.out.size))); clear hb q0 l0 y0 k0) | (go_at_call 31; (with_reducible refine (c2.out _).mono ?_); (rintro e v2 ⟨rfl, hb⟩); (have HC2 := Lib.hid (HC1.out.below hb HC1.out.lt)); (have q2 := HC2.out.cell); (have l2 := HC2.out.lt); (have B2 := Lib.hid (B1.out.trans (hb.mono B1.out.size))); clear hb q1 l1 y1 k1) | (go_at_call 23; refine (c3.out _).mono ?_; rintro e w' ⟨rfl, rfl⟩))
    go_ret
    first | exact ⟨rfl, B2.out⟩ | exact ⟨rfl, B1.out⟩

end Go.Proofs.Ytcinhibmohkeiaa

namespace Go.Proofs.Ytcinhibmohkeiaa
open Go.RowKit
open Go.Sort (grow)
set_option linter.unusedVariables false
set_option linter.unusedSimpArgs false

def ckY (n m : Nat) (ms : List Sp) (cs : List Cm5) (wr : Int) : Bool := !decide ((5 : Int) < n) && (allN n (fun k => ckS5 (spAt ms k)) && (!decide ((8 : Int) < m) && (allN m (fun k => ckC5 n (cmAt cs k)) && wn wr 0 8)))
def erY (b : Bool) : Int := bif b then 0 else 50
set_option maxRecDepth 100000 in
set_option maxHeartbeats 3200000 in
theorem check5_c (A : Option Addr) (n c : Nat) (B : Option Addr) (m d : Nat) (wr : Int) (ms : List Sp) (cs : List Cm5) (w : World) (hn : n ≤ 40) (hm : m ≤ 40) (HM : SpsAt w A n ms) (HC : CmsAt w B m cs) :
    Calls Try.prog 26 #[.agg #[.slice A n c, .slice B m d, .int .i64 wr]] w fun e w' => e = .returned (.int .i64 (erY (ckY n m ms cs wr))) ∧ Below w.heap.size w w' := by
  have enA : ∀ args w, (callFunc 45 args).run Try.prog w = .ok (.enter 45 args) w := enters_of Try.func45 (by kernel_rfl) rfl
  have enB : ∀ args w, (callFunc 46 args).run Try.prog w = .ok (.enter 46 args) w := enters_of Try.func46 (by kernel_rfl) rfl
  have cA := fun V (hV : Below w.heap.size w V) => containsFunc5Sp_c A n c 45 #[] #[] ms (fun k => !ckS5 (spAt ms k)) V hn (HM.later hV) enA (fun k hk w' hb => by simpa using badSp_c (spAt ms k) w')
  have cB := fun V (hV : Below w.heap.size w V) (HY : Blk V w.heap.size 51 #[.slice A n c, .slice B m d, .int .i64 wr]) => containsFunc5Cm_c B m d 46 #[] #[.pointer (some ⟨w.heap.size, 0, none⟩)] cs (fun k => !ckC5 n (cmAt cs k)) V hm (HC.later hV) enB (fun k hk w' hb => by simpa using badCm_c w.heap.size A n c B m d wr (cmAt cs k) w' (by omega) (HY.below hb HY.lt))
  rw [anyN_not] at cA cB
  have c5 := fun V => within5_c wr 0 8 V
  unfold ckY
  obtain ⟨u1, e1⟩ : ∃ u, decide ((5 : Int) < n) = u := ⟨_, rfl⟩
  obtain ⟨u2, e2⟩ : ∃ u, allN n (fun k => ckS5 (spAt ms k)) = u := ⟨_, rfl⟩
  obtain ⟨u3, e3⟩ : ∃ u, decide ((8 : Int) < m) = u := ⟨_, rfl⟩
  obtain ⟨u4, e4⟩ : ∃ u, allN m (fun k => ckC5 n (cmAt cs k)) = u := ⟨_, rfl⟩
  obtain ⟨u5, e5⟩ : ∃ u, wn wr 0 8 = u := ⟨_, rfl⟩
  rw [e2] at cA
  rw [e4] at cB
  rw [e5] at c5
  rw [e1, e2, e3, e4, e5]
  clear HM HC enA enB e2 e4 e5
  cases u1 <;> cases u2 <;> cases u3 <;> cases u4 <;> cases u5 <;> replace cA := Lib.hid cA <;> replace cB := Lib.hid cB <;> replace c5 := Lib.hid c5
  all_goals
    go_enter Try.func26, Try.ntmps26
    go_upto_region 1 with (fail)
    go_name_world X hX
    have BX := Lib.hid (al1 hX).1
    have HY0 : Hid (Blk X w.heap.size 51 #[.slice A n c, .slice B m d, .int .i64 wr]) := by rw [← hX]; exact Lib.hid (Blk.new w _ _)
    have q0 := HY0.out.cell
    have l0 := HY0.out.lt
    clear hX
    go_wp2_with (first | (go_at_call 47; refine (cA.out X BX.out).mono ?_; (rintro e v1 ⟨rfl, hb⟩); (have HY1 := Lib.hid (HY0.out.below hb HY0.out.lt)); (have q1 := HY1.out.cell); (have l1 := HY1.out.lt); (have B1 := Lib.hid (BX.out.trans (hb.mono BX.out.size))); clear hb q0 l0) | (go_at_call 48; refine (cB.out v1 B1.out HY1.out).mono ?_; (rintro e v2 ⟨rfl, hb⟩); (have HY2 := Lib.hid (HY1.out.below hb HY1.out.lt)); (have q2 := HY2.out.cell); (have l2 := HY2.out.lt); (have B2 := Lib.hid (B1.out.trans (hb.mono B1.out.size))); clear hb q1 l1) | (go_at_call 23; refine (c5.out _).mono ?_; rintro e w' ⟨rfl, rfl⟩))
    go_ret
    first | exact ⟨rfl, B2.out⟩ | exact ⟨rfl, B1.out⟩ | exact ⟨rfl, BX.out⟩

end Go.Proofs.Ytcinhibmohkeiaa

namespace Go.Proofs.Ytcinhibmohkeiaa
open Go.RowKit
open Go.Sort (grow)
set_option linter.unusedVariables false
set_option linter.unusedSimpArgs false

def exM5 : List Sp := [⟨-10, 10⟩, ⟨-10, 10⟩, ⟨0, 0⟩]
def exC5 : List Cm5 := [⟨0, 2, 2, 4⟩, ⟨1, 0, 1, 3⟩, ⟨1, 2, 8, 9⟩, ⟨1, 2, 8, 10⟩]
theorem ex5_ck : ckY 3 4 exM5 exC5 1 = true := by decide +kernel
set_option maxRecDepth 100000 in
set_option maxHeartbeats 1600000 in
theorem Example5_c (w : World) :
    Calls Try.prog 20 #[] w fun e w' => ∃ A B, e = .returned (.agg #[.slice A 3 3, .slice B 4 4, .int .i64 1]) ∧ SpsAt w' A 3 exM5 ∧ CmsAt w' B 4 exC5 ∧ Below w.heap.size w w' := by
  go_enter Try.func20, Try.ntmps20
  go_wp2_with fail
  have hC := fun (c1 c2 : Array Value) (t1 t2 : TypeId) => (al3_0 (w := w) (cs0 := #[Value.slice (some ⟨w.heap.size + 1, 0, none⟩) 3 3, .slice (some ⟨w.heap.size + 1 + 1, 0, none⟩) 4 4, .int .i64 1]) (cs1 := c1) (cs2 := c2) (t0 := 51) (t1 := t1) (t2 := t2) rfl).2.1
  refine bodyPost_ret (v := .agg #[.slice (some ⟨w.heap.size + 1, 0, none⟩) 3 3, .slice (some ⟨w.heap.size + 1 + 1, 0, none⟩) 4 4, .int .i64 1]) ?_ rfl ⟨some ⟨w.heap.size + 1, 0, none⟩, some ⟨w.heap.size + 1 + 1, 0, none⟩, rfl, SpsAt.later (sps_iff.2 (sl_new (d := (⟨0, 0⟩ : Sp)) encS_len (by simp) rfl rfl)) ((Below.refl _ _).alloc (Nat.le_refl _) _), (show CmsAt _ _ _ _ from sl_new (d := (⟨0, 0, 0, 0⟩ : Cm5)) encC5_len (by simp) rfl rfl), by (repeat first | with_reducible assumption | with_reducible exact Below.refl _ _ | (with_reducible refine Below.alloc ?_ ?side _; case side => (first | omega | (with_reducible exact Below.size (by assumption)) | (simp; done) | (simp; omega))) | (with_reducible refine Below.setCell ?_ ?side _; case side => (first | omega | (with_reducible exact Below.size (by assumption)) | (simp; done) | (simp; omega))) | with_reducible refine Below.drew ?_ | with_reducible refine below_drewN ?_ _ | (with_reducible refine below_step (by assumption) ?side ?_; case side => (first | omega | (with_reducible exact Below.size (by assumption)) | (simp; done) | (simp; omega))))⟩
  simp [results, Try.results20, go_sem, hC]

end Go.Proofs.Ytcinhibmohkeiaa
