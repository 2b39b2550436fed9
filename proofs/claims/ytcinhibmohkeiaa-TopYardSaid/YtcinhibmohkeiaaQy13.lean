/- The program's look at a machine (layer 3): Check with its closures. -/
import Derived.Test.YtcinhibmohkeiaaQy12
import Derived.Shelf.Abstract
import Derived.Laws.EntriesVeiled
namespace Go.Proofs.Ytcinhibmohkeiaa
open Go.RowKit
open Go.Sort (grow)
set_option linter.unusedVariables false
set_option linter.unusedSimpArgs false

set_option maxHeartbeats 400000 in
theorem indexFuncLv_c (A : Option Addr) (n c g : Nat) (fst cap : Array Value) (xs : List Lv) (p : Nat → Bool) (w : World) (hn : n ≤ 40) (HX : LvsAt w A n xs)
    (HE : ∀ args w, (callFunc g args).run Try.prog w = .ok (.enter g args) w)
    (HF : ∀ k, k < n → ∀ w', Below w.heap.size w w' → Calls Try.prog g (fst.push (.agg #[.int .i64 (lvAt xs k).lg, .int .i64 (lvAt xs k).lo, .int .i64 (lvAt xs k).hi]) ++ cap) w' fun e w'' => e = .returned (.bool (p k)) ∧ Below w'.heap.size w' w'') :
    Calls Try.prog 58 #[.slice A n c, .func (.func g) fst cap] w fun e w' => e = .returned (.int .i64 (idxN n p)) ∧ Below w.heap.size w w' := by
  have HFI := Lib.hid HF
  have HXI := Lib.hid HX
  clear HF HX
  go_enter Try.func58, Try.ntmps58
  go_wp2
  go_loopw [8] (fun i (wr : World) => ∃ k : Nat, k ≤ n ∧ i = .int .i64 k ∧ Hid (∀ j, j < k → p j = false) ∧ Below w.heap.size w wr) (fun i _ => n - (intOf i).toNat)
  case atStart => exact ⟨0, by omega, rfl, fun j hj => absurd hj (by omega), Below.refl _ _⟩
  case round =>
    obtain ⟨k, hk, rfl, H1, hb⟩ := hrel
    have zb := hb.size
    by_cases hlt : k < n
    · obtain ⟨bp, op, rfl, hbp, x0, x1, x2⟩ := (HXI.out.later hb).get hlt
      go_wp2_with fail
      refine (HFI.out k hlt _ hb).mono ?_
      (rintro e w1 ⟨rfl, hb1⟩; obtain ⟨hc1, hf1⟩ := bcell hb1; have zs1 := hb1.size; (try simp at zs1))
      go_wp2
      all_goals first
        | (go_roundw
           case rel => exact ⟨k + 1, by omega, by go_num, fun j hj => by
             rcases Nat.lt_succ_iff_lt_or_eq.1 hj with h | rfl
             · exact H1.out j h
             · rename_i h; simpa using h, by (repeat first | with_reducible assumption | with_reducible exact Below.refl _ _ | refine below_drewN ?_ _ | refine Below.drew ?_ | refine Below.alloc ?_ (by first | omega | (with_reducible exact Below.size (by assumption)) | (simp; done) | (simp; omega)) _ | refine Below.setCell ?_ (by first | omega | (with_reducible exact Below.size (by assumption)) | (simp; done) | (simp; omega)) _ | refine below_step (by assumption) (by first | omega | (with_reducible exact Below.size (by assumption)) | (simp; done) | (simp; omega)) ?_)⟩
           case measure => simp [intOf]; omega)
        | (go_ret
           rename_i h
           exact ⟨ret_int (idxN_some hlt (by simpa using h) H1.out).symm, by (repeat first | with_reducible assumption | with_reducible exact Below.refl _ _ | refine below_drewN ?_ _ | refine Below.drew ?_ | refine Below.alloc ?_ (by first | omega | (with_reducible exact Below.size (by assumption)) | (simp; done) | (simp; omega)) _ | refine Below.setCell ?_ (by first | omega | (with_reducible exact Below.size (by assumption)) | (simp; done) | (simp; omega)) _ | refine below_step (by assumption) (by first | omega | (with_reducible exact Below.size (by assumption)) | (simp; done) | (simp; omega)) ?_)⟩)
    · obtain rfl : n = k := by omega
      go_wp2
      go_ret
      exact ⟨ret_int (idxN_none H1.out).symm, by (repeat first | with_reducible assumption | with_reducible exact Below.refl _ _ | refine below_drewN ?_ _ | refine Below.drew ?_ | refine Below.alloc ?_ (by first | omega | (with_reducible exact Below.size (by assumption)) | (simp; done) | (simp; omega)) _ | refine Below.setCell ?_ (by first | omega | (with_reducible exact Below.size (by assumption)) | (simp; done) | (simp; omega)) _ | refine below_step (by assumption) (by first | omega | (with_reducible exact Below.size (by assumption)) | (simp; done) | (simp; omega)) ?_)⟩
set_option maxHeartbeats 400000 in
theorem containsFuncLv_c (A : Option Addr) (n c g : Nat) (fst cap : Array Value) (xs : List Lv) (p : Nat → Bool) (w : World) (hn : n ≤ 40) (HX : LvsAt w A n xs)
    (HE : ∀ args w, (callFunc g args).run Try.prog w = .ok (.enter g args) w)
    (HF : ∀ k, k < n → ∀ w', Below w.heap.size w w' → Calls Try.prog g (fst.push (.agg #[.int .i64 (lvAt xs k).lg, .int .i64 (lvAt xs k).lo, .int .i64 (lvAt xs k).hi]) ++ cap) w' fun e w'' => e = .returned (.bool (p k)) ∧ Below w'.heap.size w' w'') :
    Calls Try.prog 42 #[.slice A n c, .func (.func g) fst cap] w fun e w' => e = .returned (.bool (anyN n p)) ∧ Below w.heap.size w w' := by
  have HC := Lib.hid (indexFuncLv_c A n c g fst cap xs p w hn HX HE HF)
  clear HF HX
  go_enter Try.func42, Try.ntmps42
  go_wp2_with fail
  refine HC.out.mono ?_
  (rintro e w1 ⟨rfl, hb1⟩; obtain ⟨hc1, hf1⟩ := bcell hb1; have zs1 := hb1.size; (try simp at zs1))
  go_wp2
  go_ret
  exact ⟨ret_bool idxN_ge, by (repeat first | with_reducible assumption | with_reducible exact Below.refl _ _ | refine below_drewN ?_ _ | refine Below.drew ?_ | refine Below.alloc ?_ (by first | omega | (with_reducible exact Below.size (by assumption)) | (simp; done) | (simp; omega)) _ | refine Below.setCell ?_ (by first | omega | (with_reducible exact Below.size (by assumption)) | (simp; done) | (simp; omega)) _ | refine below_step (by assumption) (by first | omega | (with_reducible exact Below.size (by assumption)) | (simp; done) | (simp; omega)) ?_)⟩
set_option maxHeartbeats 400000 in
theorem indexFuncBa_c (A : Option Addr) (n c g : Nat) (fst cap : Array Value) (xs : List Bal) (p : Nat → Bool) (w : World) (hn : n ≤ 40) (HX : BasAt w A n xs)
    (HE : ∀ args w, (callFunc g args).run Try.prog w = .ok (.enter g args) w)
    (HF : ∀ k, k < n → ∀ w', Below w.heap.size w w' → Calls Try.prog g (fst.push (.agg #[.int .i64 (baAt xs k).wt, .int .i64 (baAt xs k).mi, .int .i64 (baAt xs k).ld, .int .i64 (baAt xs k).of]) ++ cap) w' fun e w'' => e = .returned (.bool (p k)) ∧ Below w'.heap.size w' w'') :
    Calls Try.prog 59 #[.slice A n c, .func (.func g) fst cap] w fun e w' => e = .returned (.int .i64 (idxN n p)) ∧ Below w.heap.size w w' := by
  have HFI := Lib.hid HF
  have HXI := Lib.hid HX
  clear HF HX
  go_enter Try.func59, Try.ntmps59
  go_wp2
  go_loopw [8] (fun i (wr : World) => ∃ k : Nat, k ≤ n ∧ i = .int .i64 k ∧ Hid (∀ j, j < k → p j = false) ∧ Below w.heap.size w wr) (fun i _ => n - (intOf i).toNat)
  case atStart => exact ⟨0, by omega, rfl, fun j hj => absurd hj (by omega), Below.refl _ _⟩
  case round =>
    obtain ⟨k, hk, rfl, H1, hb⟩ := hrel
    have zb := hb.size
    by_cases hlt : k < n
    · obtain ⟨bp, op, rfl, hbp, x0, x1, x2, x3⟩ := (HXI.out.later hb).get hlt
      go_wp2_with fail
      refine (HFI.out k hlt _ hb).mono ?_
      (rintro e w1 ⟨rfl, hb1⟩; obtain ⟨hc1, hf1⟩ := bcell hb1; have zs1 := hb1.size; (try simp at zs1))
      go_wp2
      all_goals first
        | (go_roundw
           case rel => exact ⟨k + 1, by omega, by go_num, fun j hj => by
             rcases Nat.lt_succ_iff_lt_or_eq.1 hj with h | rfl
             · exact H1.out j h
             · rename_i h; simpa using h, by (repeat first | with_reducible assumption | with_reducible exact Below.refl _ _ | refine below_drewN ?_ _ | refine Below.drew ?_ | refine Below.alloc ?_ (by first | omega | (with_reducible exact Below.size (by assumption)) | (simp; done) | (simp; omega)) _ | refine Below.setCell ?_ (by first | omega | (with_reducible exact Below.size (by assumption)) | (simp; done) | (simp; omega)) _ | refine below_step (by assumption) (by first | omega | (with_reducible exact Below.size (by assumption)) | (simp; done) | (simp; omega)) ?_)⟩
           case measure => simp [intOf]; omega)
        | (go_ret
           rename_i h
           exact ⟨ret_int (idxN_some hlt (by simpa using h) H1.out).symm, by (repeat first | with_reducible assumption | with_reducible exact Below.refl _ _ | refine below_drewN ?_ _ | refine Below.drew ?_ | refine Below.alloc ?_ (by first | omega | (with_reducible exact Below.size (by assumption)) | (simp; done) | (simp; omega)) _ | refine Below.setCell ?_ (by first | omega | (with_reducible exact Below.size (by assumption)) | (simp; done) | (simp; omega)) _ | refine below_step (by assumption) (by first | omega | (with_reducible exact Below.size (by assumption)) | (simp; done) | (simp; omega)) ?_)⟩)
    · obtain rfl : n = k := by omega
      go_wp2
      go_ret
      exact ⟨ret_int (idxN_none H1.out).symm, by (repeat first | with_reducible assumption | with_reducible exact Below.refl _ _ | refine below_drewN ?_ _ | refine Below.drew ?_ | refine Below.alloc ?_ (by first | omega | (with_reducible exact Below.size (by assumption)) | (simp; done) | (simp; omega)) _ | refine Below.setCell ?_ (by first | omega | (with_reducible exact Below.size (by assumption)) | (simp; done) | (simp; omega)) _ | refine below_step (by assumption) (by first | omega | (with_reducible exact Below.size (by assumption)) | (simp; done) | (simp; omega)) ?_)⟩
set_option maxHeartbeats 400000 in
theorem containsFuncBa_c (A : Option Addr) (n c g : Nat) (fst cap : Array Value) (xs : List Bal) (p : Nat → Bool) (w : World) (hn : n ≤ 40) (HX : BasAt w A n xs)
    (HE : ∀ args w, (callFunc g args).run Try.prog w = .ok (.enter g args) w)
    (HF : ∀ k, k < n → ∀ w', Below w.heap.size w w' → Calls Try.prog g (fst.push (.agg #[.int .i64 (baAt xs k).wt, .int .i64 (baAt xs k).mi, .int .i64 (baAt xs k).ld, .int .i64 (baAt xs k).of]) ++ cap) w' fun e w'' => e = .returned (.bool (p k)) ∧ Below w'.heap.size w' w'') :
    Calls Try.prog 43 #[.slice A n c, .func (.func g) fst cap] w fun e w' => e = .returned (.bool (anyN n p)) ∧ Below w.heap.size w w' := by
  have HC := Lib.hid (indexFuncBa_c A n c g fst cap xs p w hn HX HE HF)
  clear HF HX
  go_enter Try.func43, Try.ntmps43
  go_wp2_with fail
  refine HC.out.mono ?_
  (rintro e w1 ⟨rfl, hb1⟩; obtain ⟨hc1, hf1⟩ := bcell hb1; have zs1 := hb1.size; (try simp at zs1))
  go_wp2
  go_ret
  exact ⟨ret_bool idxN_ge, by (repeat first | with_reducible assumption | with_reducible exact Below.refl _ _ | refine below_drewN ?_ _ | refine Below.drew ?_ | refine Below.alloc ?_ (by first | omega | (with_reducible exact Below.size (by assumption)) | (simp; done) | (simp; omega)) _ | refine Below.setCell ?_ (by first | omega | (with_reducible exact Below.size (by assumption)) | (simp; done) | (simp; omega)) _ | refine below_step (by assumption) (by first | omega | (with_reducible exact Below.size (by assumption)) | (simp; done) | (simp; omega)) ?_)⟩
def ckLv (l : Lv) : Bool := wn l.lg 1 1000 && (wn l.lo 1 l.hi && !decide (1000 < l.hi))
def ckBa (b : Bal) : Bool := ask3 b.wt b.mi b.ld && wn b.of 0 999999999
def ckM (nl nb : Nat) (wa l0 l1 wrg : Int) (lv : List Lv) (bl : List Bal) : Bool :=
  !decide ((3 : Int) < nl) && (allN nl (fun k => ckLv (lvAt lv k)) && (wn wa 0 9999 && (wn l0 0 l1 && (!decide (20 < l1) && (!decide ((6 : Int) < nb) && (allN nb (fun k => ckBa (baAt bl k)) && wn wrg 0 6))))))
def erM (b : Bool) : Int := bif b then 0 else 30
set_option maxHeartbeats 400000 in
theorem ckLv_c (l : Lv) (w : World) : Calls Try.prog 38 #[.agg #[.int .i64 l.lg, .int .i64 l.lo, .int .i64 l.hi]] w fun e w' => e = .returned (.bool (!ckLv l)) ∧ Below w.heap.size w w' := by
  have c1 := fun V => within3_c l.lg 1 1000 V
  have c2 := fun V => within3_c l.lo 1 l.hi V
  cases e1 : wn l.lg 1 1000 <;> cases e2 : wn l.lo 1 l.hi <;> rw [e1] at c1 <;> rw [e2] at c2 <;> replace c1 := Lib.hid c1 <;> replace c2 := Lib.hid c2
  all_goals
    replace e1 := Lib.hid e1
    replace e2 := Lib.hid e2
    go_enter Try.func38, Try.ntmps38
    go_wp2_with (go_at_call 39; (first | with_reducible refine (c1.out _).mono ?_ | with_reducible refine (c2.out _).mono ?_); rintro e w' ⟨rfl, rfl⟩)
    go_ret
    exact ⟨ret_bool (by simp [ckLv, e1.out, e2.out]), by (repeat first | with_reducible assumption | with_reducible exact Below.refl _ _ | refine below_drewN ?_ _ | refine Below.drew ?_ | refine Below.alloc ?_ (by first | omega | (with_reducible exact Below.size (by assumption)) | (simp; done) | (simp; omega)) _ | refine Below.setCell ?_ (by first | omega | (with_reducible exact Below.size (by assumption)) | (simp; done) | (simp; omega)) _ | refine below_step (by assumption) (by first | omega | (with_reducible exact Below.size (by assumption)) | (simp; done) | (simp; omega)) ?_)⟩
set_option maxHeartbeats 400000 in
theorem ckBa_c (b : Bal) (w : World) : Calls Try.prog 40 #[.agg #[.int .i64 b.wt, .int .i64 b.mi, .int .i64 b.ld, .int .i64 b.of]] w fun e w' => e = .returned (.bool (!ckBa b)) ∧ Below w.heap.size w w' := by
  have c1 := fun V => isAsk3_c b.wt b.mi b.ld V
  have c2 := fun V => within3_c b.of 0 999999999 V
  cases e1 : ask3 b.wt b.mi b.ld <;> cases e2 : wn b.of 0 999999999 <;> rw [e1] at c1 <;> rw [e2] at c2 <;> replace c1 := Lib.hid c1 <;> replace c2 := Lib.hid c2
  all_goals
    replace e1 := Lib.hid e1
    replace e2 := Lib.hid e2
    go_enter Try.func40, Try.ntmps40
    go_wp2_with (first | (go_at_call 41; refine (c1.out _).mono ?_; rintro e w' ⟨rfl, rfl⟩) | (go_at_call 39; refine (c2.out _).mono ?_; rintro e w' ⟨rfl, rfl⟩))
    go_ret
    exact ⟨ret_bool (by simp [ckBa, e1.out, e2.out]), by (repeat first | with_reducible assumption | with_reducible exact Below.refl _ _ | refine below_drewN ?_ _ | refine Below.drew ?_ | refine Below.alloc ?_ (by first | omega | (with_reducible exact Below.size (by assumption)) | (simp; done) | (simp; omega)) _ | refine Below.setCell ?_ (by first | omega | (with_reducible exact Below.size (by assumption)) | (simp; done) | (simp; omega)) _ | refine below_step (by assumption) (by first | omega | (with_reducible exact Below.size (by assumption)) | (simp; done) | (simp; omega)) ?_)⟩
set_option maxRecDepth 100000 in
set_option maxHeartbeats 1600000 in
theorem check3_c (Al : Option Addr) (nl cl : Nat) (wa l0 l1 : Int) (Ab : Option Addr) (nb cb : Nat) (wrg : Int) (lv : List Lv) (bl : List Bal) (w : World) (hn : nl ≤ 40) (hnb : nb ≤ 40) (HL : LvsAt w Al nl lv) (HB : BasAt w Ab nb bl) :
    Calls Try.prog 22 #[.agg #[.slice Al nl cl, .int .i64 wa, .int .i64 l0, .int .i64 l1, .slice Ab nb cb, .int .i64 wrg]] w fun e w' => e = .returned (.int .i64 (erM (ckM nl nb wa l0 l1 wrg lv bl))) ∧ Below w.heap.size w w' := by
  have enA : ∀ args w, (callFunc 38 args).run Try.prog w = .ok (.enter 38 args) w := enters_of Try.func38 (by kernel_rfl) rfl
  have enB : ∀ args w, (callFunc 40 args).run Try.prog w = .ok (.enter 40 args) w := enters_of Try.func40 (by kernel_rfl) rfl
  have cA := fun V (hV : Below w.heap.size w V) => containsFuncLv_c Al nl cl 38 #[] #[] lv (fun k => !ckLv (lvAt lv k)) V hn (HL.later hV) enA (fun k hk w' hb => by simpa using ckLv_c (lvAt lv k) w')
  have cB := fun V (hV : Below w.heap.size w V) => containsFuncBa_c Ab nb cb 40 #[] #[] bl (fun k => !ckBa (baAt bl k)) V hnb (HB.later hV) enB (fun k hk w' hb => by simpa using ckBa_c (baAt bl k) w')
  rw [anyN_not] at cA cB
  have cw := Lib.hid (fun V => within3_c wa 0 9999 V)
  have cl0 := Lib.hid (fun V => within3_c l0 0 l1 V)
  have cr := Lib.hid (fun V => within3_c wrg 0 6 V)
  obtain ⟨ck, hck⟩ : ∃ x, ckM nl nb wa l0 l1 wrg lv bl = x := ⟨_, rfl⟩
  rw [hck]
  unfold ckM at hck
  clear HL HB enA enB
  by_cases g1 : (3 : Int) < nl
  · have gB : decide ((3 : Int) < nl) = true := by simpa using g1
    rw [gB] at hck
    have hck := Lib.hid hck.symm
    replace cA := Lib.hid cA
    replace cB := Lib.hid cB
    go_enter Try.func22, Try.ntmps22
    go_upto_region 4 with (fail)
    go_name_world X hX
    have BX : Below w.heap.size w X := (al1 hX).1
    have q0 := (al1_0 hX).2.1
    have l0' := (al1_0 hX).1
    clear hX
    go_wp2_with (first | (go_at_call 42; refine (cA.out _ BX).mono ?_; (rintro e wA ⟨rfl, hA⟩); (have qA := fun j => (hA.cell (p := ⟨w.heap.size, j, none⟩) l0').trans (q0 j)); (have lA := Nat.lt_of_lt_of_le l0' hA.size); (have BA := BX.trans (hA.mono BX.size)); clear hA) | (go_at_call 43; refine (cB.out _ BA).mono ?_; (rintro e wB ⟨rfl, hB⟩); (have qB := fun j => (hB.cell (p := ⟨w.heap.size, j, none⟩) lA).trans (qA j)); (have lB := Nat.lt_of_lt_of_le lA hB.size); (have BB := BA.trans (hB.mono BA.size)); clear hB) | (go_at_call 39; (first | with_reducible refine (cw.out _).mono ?_ | with_reducible refine (cl0.out _).mono ?_ | with_reducible refine (cr.out _).mono ?_); rintro e w' ⟨rfl, rfl⟩))
    go_ret
    exact ⟨ret_int (by rw [hck.out]; rfl), by first | exact BB | exact BA | exact BX⟩
  have gB : decide ((3 : Int) < nl) = false := by simpa using g1
  rw [gB] at hck
  cases e2 : allN nl (fun k => ckLv (lvAt lv k))
  · rw [e2] at hck cA
    have hck := Lib.hid hck.symm
    replace cA := Lib.hid cA
    replace cB := Lib.hid cB
    go_enter Try.func22, Try.ntmps22
    go_upto_region 4 with (fail)
    go_name_world X hX
    have BX : Below w.heap.size w X := (al1 hX).1
    have q0 := (al1_0 hX).2.1
    have l0' := (al1_0 hX).1
    clear hX
    go_wp2_with (first | (go_at_call 42; refine (cA.out _ BX).mono ?_; (rintro e wA ⟨rfl, hA⟩); (have qA := fun j => (hA.cell (p := ⟨w.heap.size, j, none⟩) l0').trans (q0 j)); (have lA := Nat.lt_of_lt_of_le l0' hA.size); (have BA := BX.trans (hA.mono BX.size)); clear hA) | (go_at_call 43; refine (cB.out _ BA).mono ?_; (rintro e wB ⟨rfl, hB⟩); (have qB := fun j => (hB.cell (p := ⟨w.heap.size, j, none⟩) lA).trans (qA j)); (have lB := Nat.lt_of_lt_of_le lA hB.size); (have BB := BA.trans (hB.mono BA.size)); clear hB) | (go_at_call 39; (first | with_reducible refine (cw.out _).mono ?_ | with_reducible refine (cl0.out _).mono ?_ | with_reducible refine (cr.out _).mono ?_); rintro e w' ⟨rfl, rfl⟩))
    go_ret
    exact ⟨ret_int (by rw [hck.out]; rfl), by first | exact BB | exact BA | exact BX⟩
  rw [e2] at hck cA
  cases e3 : wn wa 0 9999
  · rw [e3] at hck cw
    have hck := Lib.hid hck.symm
    replace cA := Lib.hid cA
    replace cB := Lib.hid cB
    go_enter Try.func22, Try.ntmps22
    go_upto_region 4 with (fail)
    go_name_world X hX
    have BX : Below w.heap.size w X := (al1 hX).1
    have q0 := (al1_0 hX).2.1
    have l0' := (al1_0 hX).1
    clear hX
    go_wp2_with (first | (go_at_call 42; refine (cA.out _ BX).mono ?_; (rintro e wA ⟨rfl, hA⟩); (have qA := fun j => (hA.cell (p := ⟨w.heap.size, j, none⟩) l0').trans (q0 j)); (have lA := Nat.lt_of_lt_of_le l0' hA.size); (have BA := BX.trans (hA.mono BX.size)); clear hA) | (go_at_call 43; refine (cB.out _ BA).mono ?_; (rintro e wB ⟨rfl, hB⟩); (have qB := fun j => (hB.cell (p := ⟨w.heap.size, j, none⟩) lA).trans (qA j)); (have lB := Nat.lt_of_lt_of_le lA hB.size); (have BB := BA.trans (hB.mono BA.size)); clear hB) | (go_at_call 39; (first | with_reducible refine (cw.out _).mono ?_ | with_reducible refine (cl0.out _).mono ?_ | with_reducible refine (cr.out _).mono ?_); rintro e w' ⟨rfl, rfl⟩))
    go_ret
    exact ⟨ret_int (by rw [hck.out]; rfl), by first | exact BB | exact BA | exact BX⟩
  rw [e3] at hck cw
  cases e4 : wn l0 0 l1
  · rw [e4] at hck cl0
    have hck := Lib.hid hck.symm
    replace cA := Lib.hid cA
    replace cB := Lib.hid cB
    go_enter Try.func22, Try.ntmps22
    go_upto_region 4 with (fail)
    go_name_world X hX
    have BX : Below w.heap.size w X := (al1 hX).1
    have q0 := (al1_0 hX).2.1
    have l0' := (al1_0 hX).1
    clear hX
    go_wp2_with (first | (go_at_call 42; refine (cA.out _ BX).mono ?_; (rintro e wA ⟨rfl, hA⟩); (have qA := fun j => (hA.cell (p := ⟨w.heap.size, j, none⟩) l0').trans (q0 j)); (have lA := Nat.lt_of_lt_of_le l0' hA.size); (have BA := BX.trans (hA.mono BX.size)); clear hA) | (go_at_call 43; refine (cB.out _ BA).mono ?_; (rintro e wB ⟨rfl, hB⟩); (have qB := fun j => (hB.cell (p := ⟨w.heap.size, j, none⟩) lA).trans (qA j)); (have lB := Nat.lt_of_lt_of_le lA hB.size); (have BB := BA.trans (hB.mono BA.size)); clear hB) | (go_at_call 39; (first | with_reducible refine (cw.out _).mono ?_ | with_reducible refine (cl0.out _).mono ?_ | with_reducible refine (cr.out _).mono ?_); rintro e w' ⟨rfl, rfl⟩))
    go_ret
    exact ⟨ret_int (by rw [hck.out]; rfl), by first | exact BB | exact BA | exact BX⟩
  rw [e4] at hck cl0
  by_cases g5 : 20 < l1
  · have gC : decide (20 < l1) = true := by simpa using g5
    rw [gC] at hck
    have hck := Lib.hid hck.symm
    replace cA := Lib.hid cA
    replace cB := Lib.hid cB
    go_enter Try.func22, Try.ntmps22
    go_upto_region 4 with (fail)
    go_name_world X hX
    have BX : Below w.heap.size w X := (al1 hX).1
    have q0 := (al1_0 hX).2.1
    have l0' := (al1_0 hX).1
    clear hX
    go_wp2_with (first | (go_at_call 42; refine (cA.out _ BX).mono ?_; (rintro e wA ⟨rfl, hA⟩); (have qA := fun j => (hA.cell (p := ⟨w.heap.size, j, none⟩) l0').trans (q0 j)); (have lA := Nat.lt_of_lt_of_le l0' hA.size); (have BA := BX.trans (hA.mono BX.size)); clear hA) | (go_at_call 43; refine (cB.out _ BA).mono ?_; (rintro e wB ⟨rfl, hB⟩); (have qB := fun j => (hB.cell (p := ⟨w.heap.size, j, none⟩) lA).trans (qA j)); (have lB := Nat.lt_of_lt_of_le lA hB.size); (have BB := BA.trans (hB.mono BA.size)); clear hB) | (go_at_call 39; (first | with_reducible refine (cw.out _).mono ?_ | with_reducible refine (cl0.out _).mono ?_ | with_reducible refine (cr.out _).mono ?_); rintro e w' ⟨rfl, rfl⟩))
    go_ret
    exact ⟨ret_int (by rw [hck.out]; rfl), by first | exact BB | exact BA | exact BX⟩
  have gC : decide (20 < l1) = false := by simpa using g5
  rw [gC] at hck
  by_cases g6 : (6 : Int) < nb
  · have gD : decide ((6 : Int) < nb) = true := by simpa using g6
    rw [gD] at hck
    have hck := Lib.hid hck.symm
    replace cA := Lib.hid cA
    replace cB := Lib.hid cB
    go_enter Try.func22, Try.ntmps22
    go_upto_region 4 with (fail)
    go_name_world X hX
    have BX : Below w.heap.size w X := (al1 hX).1
    have q0 := (al1_0 hX).2.1
    have l0' := (al1_0 hX).1
    clear hX
    go_wp2_with (first | (go_at_call 42; refine (cA.out _ BX).mono ?_; (rintro e wA ⟨rfl, hA⟩); (have qA := fun j => (hA.cell (p := ⟨w.heap.size, j, none⟩) l0').trans (q0 j)); (have lA := Nat.lt_of_lt_of_le l0' hA.size); (have BA := BX.trans (hA.mono BX.size)); clear hA) | (go_at_call 43; refine (cB.out _ BA).mono ?_; (rintro e wB ⟨rfl, hB⟩); (have qB := fun j => (hB.cell (p := ⟨w.heap.size, j, none⟩) lA).trans (qA j)); (have lB := Nat.lt_of_lt_of_le lA hB.size); (have BB := BA.trans (hB.mono BA.size)); clear hB) | (go_at_call 39; (first | with_reducible refine (cw.out _).mono ?_ | with_reducible refine (cl0.out _).mono ?_ | with_reducible refine (cr.out _).mono ?_); rintro e w' ⟨rfl, rfl⟩))
    go_ret
    exact ⟨ret_int (by rw [hck.out]; rfl), by first | exact BB | exact BA | exact BX⟩
  have gD : decide ((6 : Int) < nb) = false := by simpa using g6
  rw [gD] at hck
  cases e7 : allN nb (fun k => ckBa (baAt bl k))
  · rw [e7] at hck cB
    have hck := Lib.hid hck.symm
    replace cA := Lib.hid cA
    replace cB := Lib.hid cB
    go_enter Try.func22, Try.ntmps22
    go_upto_region 4 with (fail)
    go_name_world X hX
    have BX : Below w.heap.size w X := (al1 hX).1
    have q0 := (al1_0 hX).2.1
    have l0' := (al1_0 hX).1
    clear hX
    go_wp2_with (first | (go_at_call 42; refine (cA.out _ BX).mono ?_; (rintro e wA ⟨rfl, hA⟩); (have qA := fun j => (hA.cell (p := ⟨w.heap.size, j, none⟩) l0').trans (q0 j)); (have lA := Nat.lt_of_lt_of_le l0' hA.size); (have BA := BX.trans (hA.mono BX.size)); clear hA) | (go_at_call 43; refine (cB.out _ BA).mono ?_; (rintro e wB ⟨rfl, hB⟩); (have qB := fun j => (hB.cell (p := ⟨w.heap.size, j, none⟩) lA).trans (qA j)); (have lB := Nat.lt_of_lt_of_le lA hB.size); (have BB := BA.trans (hB.mono BA.size)); clear hB) | (go_at_call 39; (first | with_reducible refine (cw.out _).mono ?_ | with_reducible refine (cl0.out _).mono ?_ | with_reducible refine (cr.out _).mono ?_); rintro e w' ⟨rfl, rfl⟩))
    go_ret
    exact ⟨ret_int (by rw [hck.out]; rfl), by first | exact BB | exact BA | exact BX⟩
  rw [e7] at hck cB
  cases e8 : wn wrg 0 6
  · rw [e8] at hck cr
    have hck := Lib.hid hck.symm
    replace cA := Lib.hid cA
    replace cB := Lib.hid cB
    go_enter Try.func22, Try.ntmps22
    go_upto_region 4 with (fail)
    go_name_world X hX
    have BX : Below w.heap.size w X := (al1 hX).1
    have q0 := (al1_0 hX).2.1
    have l0' := (al1_0 hX).1
    clear hX
    go_wp2_with (first | (go_at_call 42; refine (cA.out _ BX).mono ?_; (rintro e wA ⟨rfl, hA⟩); (have qA := fun j => (hA.cell (p := ⟨w.heap.size, j, none⟩) l0').trans (q0 j)); (have lA := Nat.lt_of_lt_of_le l0' hA.size); (have BA := BX.trans (hA.mono BX.size)); clear hA) | (go_at_call 43; refine (cB.out _ BA).mono ?_; (rintro e wB ⟨rfl, hB⟩); (have qB := fun j => (hB.cell (p := ⟨w.heap.size, j, none⟩) lA).trans (qA j)); (have lB := Nat.lt_of_lt_of_le lA hB.size); (have BB := BA.trans (hB.mono BA.size)); clear hB) | (go_at_call 39; (first | with_reducible refine (cw.out _).mono ?_ | with_reducible refine (cl0.out _).mono ?_ | with_reducible refine (cr.out _).mono ?_); rintro e w' ⟨rfl, rfl⟩))
    go_ret
    exact ⟨ret_int (by rw [hck.out]; rfl), by first | exact BB | exact BA | exact BX⟩
  rw [e8] at hck cr
  have hck := Lib.hid hck.symm
  replace cA := Lib.hid cA
  replace cB := Lib.hid cB
  go_enter Try.func22, Try.ntmps22
  go_upto_region 4 with (fail)
  go_name_world X hX
  have BX : Below w.heap.size w X := (al1 hX).1
  have q0 := (al1_0 hX).2.1
  have l0' := (al1_0 hX).1
  clear hX
  go_wp2_with (first | (go_at_call 42; refine (cA.out _ BX).mono ?_; (rintro e wA ⟨rfl, hA⟩); (have qA := fun j => (hA.cell (p := ⟨w.heap.size, j, none⟩) l0').trans (q0 j)); (have lA := Nat.lt_of_lt_of_le l0' hA.size); (have BA := BX.trans (hA.mono BX.size)); clear hA) | (go_at_call 43; refine (cB.out _ BA).mono ?_; (rintro e wB ⟨rfl, hB⟩); (have qB := fun j => (hB.cell (p := ⟨w.heap.size, j, none⟩) lA).trans (qA j)); (have lB := Nat.lt_of_lt_of_le lA hB.size); (have BB := BA.trans (hB.mono BA.size)); clear hB) | (go_at_call 39; (first | with_reducible refine (cw.out _).mono ?_ | with_reducible refine (cl0.out _).mono ?_ | with_reducible refine (cr.out _).mono ?_); rintro e w' ⟨rfl, rfl⟩))
  go_ret
  exact ⟨ret_int (by rw [hck.out]; rfl), by first | exact BB | exact BA | exact BX⟩

end Go.Proofs.Ytcinhibmohkeiaa
