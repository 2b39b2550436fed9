/- pieces and ShacklesOf of the specification (layer 7). -/
import Derived.Test.YtglpgcgidkdkiaaQd43
import Derived.Test.YtglpgcgidkdkiaaQd12
namespace Go.Proofs.Ytglpgcgidkdkiaa
open Go.RowKit
open Go.Sort (grow)
set_option linter.unusedVariables false
set_option linter.unusedSimpArgs false

/-- a list of links is what the bits of x say -/
def Bits (l : List Int) (m n x : Nat) : Prop := ∀ i, i < n → (anyN m fun k => iAt l k == (i : Int)) = x.testBit i
theorem bits_mem (x n : Nat) : Bits (ints (memN x n)) (memN x n).length n x := fun i hi => by rw [mem_any, decide_eq_true hi, Bool.true_and]
theorem bits_isR {n m : Nat} {l : List Int} (h : isR n m l = true) : Bits l m n (ofK l m) := fun i _ => (ofK_bit (fun j hj => (isR_nn h j hj).1) i).symm
def lastB (x k : Nat) : Bool := !(k == 0 || x.testBit (k - 1))
set_option maxRecDepth 100000 in
set_option maxHeartbeats 3200000 in
theorem refPieces_c (A B : Option Addr) (n c m d x : Nat) (q : Cb) (l : List Int) (w : World) (hn : n ≤ 40) (hm : m ≤ 40) (HX : IntsAt w B m l) (hx : Bits l m n x) :
    Calls Try.prog 48 #[.agg #[.slice A n c, .int .i64 q.need, .int .i64 q.gap, .int .i64 q.doubt, .int .i64 q.joins, .int .i64 q.least], .slice B m d] w
      fun e w' => ∃ A c, e = .returned (.slice A (pcs x n).length c) ∧ IntsAt w' A (pcs x n).length (pcs x n) ∧ Below w.heap.size w w' := by
  have HXI := Lib.hid HX
  have HXB := Lib.hid hx
  clear HX hx
  go_enter Try.func48, Try.ntmps48
  go_wp2
  go_name_world W hW
  obtain ⟨hB, hz⟩ := al1 hW
  obtain ⟨l_0, q_0, f_0⟩ := al1_0 hW
  have HZ := Lib.hid hz
  have zs := hB.size
  clear hW hz
  have W_ := Lib.hid (World.ownsRow_nil W W.heap.size 3 1)
  go_loopw [5, 6, 7, 8] (fun v la i le (wr : World) => ∃ k : Nat, k ≤ n ∧ i = .int .i64 k ∧ la = .bool (lastB x k) ∧ Hid (wr.ownsRow W.heap.size 3 1 v (pcs x k).length ((pcs x k).flatMap encI)) ∧ Below W.heap.size W wr) (fun _ _ i _ _ => n - (intOf i).toNat)
  case atStart => exact ⟨0, by omega, rfl, rfl, W_, Below.refl _ _⟩
  case round =>
    obtain ⟨k, hk, rfl, rfl, HO, hb⟩ := hrel
    obtain ⟨hc, hf⟩ := bcell hb
    have zb := hb.size
    have m0 := Nat.lt_of_lt_of_le l_0 zb
    have hle := pcs_len x k
    by_cases hkn : k < n
    · have hknB : decide ((k : Int) < n) = true := by simp; omega
      obtain ⟨b, hb2⟩ : ∃ b, x.testBit k = b := ⟨_, rfl⟩
      have hhas : ∀ V, Below w.heap.size w V → Calls Try.prog 47 #[.slice B m d, .int .i64 k] V fun e W' => e = .returned (.bool b) ∧ V = W' := fun V hV => by
        rw [← hb2, ← HXB.out k hkn]; exact in7_c B m d k l V hm (HXI.out.later hV)
      replace hhas := Lib.hid hhas
      have hbw : Below w.heap.size w wr := by (repeat first | with_reducible assumption | with_reducible exact Below.refl _ _ | refine below_drewN ?_ _ | refine Below.drew ?_ | refine Below.alloc ?_ (by first | omega | (with_reducible exact Below.size (by assumption)) | (simp; done) | (simp; omega)) _ | refine Below.setCell ?_ (by first | omega | (with_reducible exact Below.size (by assumption)) | (simp; done) | (simp; omega)) _ | refine below_step (by assumption) (by first | omega | (with_reducible exact Below.size (by assumption)) | (simp; done) | (simp; omega)) ?_)
      have hL1 : Hid (lastB x (k + 1) = !b) := by
        show _ = _
        simp [lastB, hb2]
      obtain ⟨la, hla⟩ : ∃ a, lastB x k = a := ⟨_, rfl⟩
      rw [hla]
      cases b
      · cases la
        · have HY : Hid (pcs x (k + 1) = pcs x k ++ [1]) := by
            show _ = _
            have : (k == 0 || x.testBit (k - 1)) = true := by
              cases h : (k == 0 || x.testBit (k - 1)) with
              | true => rfl
              | false => rw [lastB, h] at hla; cases hla
            simp only [pcs, hb2, this, cond_false, cond_true]
          clear hb2 hla
          go_wp2_with (first | (go_at_call 47; refine (hhas.out _ hbw).mono ?_; rintro e w' ⟨rfl, rfl⟩) | (at_builtin; go_must (refine wpList_append_T _ (d := (0 : Int)) rfl (.tmp 35) (.tmp 36) _ rfl W.heap.size _ 1 8 intE_q7 encI_len encI_one u5 u5.ownBlock (pcs x k).length (pcs x k) rfl rfl ?_ _ 1 _ [(1 : Int)] rfl ?_ ?_ ?_ ?_; (exact own_below HO.out (by (repeat first | with_reducible assumption | with_reducible exact Below.refl _ _ | (with_reducible refine Below.alloc ?_ ?side _; case side => (first | omega | (with_reducible exact Below.size (by assumption)) | (simp; done) | (simp; omega))) | (with_reducible refine Below.setCell ?_ ?side _; case side => (first | omega | (with_reducible exact Below.size (by assumption)) | (simp; done) | (simp; omega))) | with_reducible refine Below.drew ?_ | with_reducible refine below_drewN ?_ _ | (with_reducible refine below_step (by assumption) ?side ?_; case side => (first | omega | (with_reducible exact Below.size (by assumption)) | (simp; done) | (simp; omega)))))); (exact sl_new encI_len rfl rfl rfl); omega; (simp; omega); (intro v' w5 hown5 hg5 hat5; have hb5 : Below W.heap.size W w5 := (Below.grown (by (repeat first | with_reducible assumption | with_reducible exact Below.refl _ _ | (with_reducible refine Below.alloc ?_ ?side _; case side => (first | omega | (with_reducible exact Below.size (by assumption)) | (simp; done) | (simp; omega))) | (with_reducible refine Below.setCell ?_ ?side _; case side => (first | omega | (with_reducible exact Below.size (by assumption)) | (simp; done) | (simp; omega))) | with_reducible refine Below.drew ?_ | with_reducible refine below_drewN ?_ _ | (with_reducible refine below_step (by assumption) ?side ?_; case side => (first | omega | (with_reducible exact Below.size (by assumption)) | (simp; done) | (simp; omega))))) hg5 (by simp; omega) (own_ge HO.out)); have hown6 : Hid (w5.ownsRow W.heap.size 3 1 v' (pcs x (k + 1)).length ((pcs x (k + 1)).flatMap encI)) := (by rw [HY.out, List.length_append]; exact hown5); clear hown5 hg5 hat5))))
          go_roundw
          case rel => exact ⟨k + 1, by omega, by go_num, by rw [hL1.out]; rfl, hown6, hb5⟩
          case measure => simp [intOf]; omega
        · have hk0 : k ≠ 0 := fun e => by subst e; simp [lastB] at hla
          have hb3 : x.testBit (k - 1) = false := by simp [lastB] at hla; exact hla.2
          have HY : Hid (pcs x (k + 1) = (pcs x k).set ((pcs x k).length - 1) (iAt (pcs x k) ((pcs x k).length - 1) + 1)) := by
            show _ = _
            rw [← bump_set (pcs_ne hk0 hb3)]
            simp [pcs, hb2, hb3, show (k == 0) = false by simpa using hk0]
          have hne := pcs_ne hk0 hb3
          have hbd := pcs_bd x k _ (iAt_mem_q7 (l := pcs x k) (k := (pcs x k).length - 1) (by have := List.length_pos_iff.2 hne; omega))
          have hmm0 := List.length_pos_iff.2 hne
          obtain ⟨m', hmm⟩ : ∃ m, (pcs x k).length = m := ⟨_, rfl⟩
          obtain ⟨v, hv⟩ : ∃ v, iAt (pcs x k) (m' - 1) = v := ⟨_, rfl⟩
          have HO2 := HO.out
          rw [hmm] at HO2 hmm0 hle hbd HY
          rw [hv] at hbd HY
          obtain ⟨g, cap, rfl, hbg, hgl⟩ := HO2.form hmm0
          have c0 := HO2.cellAt (m' - 1) (by omega)
          rw [flat_ints, List.getElem?_map, List.getElem?_eq_getElem (by omega), Option.map_some, show (pcs x k)[m' - 1]'(by omega) = v by rw [← hv]; unfold iAt; rw [List.getD_eq_getElem?_getD, List.getElem?_eq_getElem (by omega)]; rfl] at c0
          have f0 := HO2.frozenAt (m' - 1)
          have hm1 : IntKind.i64.wrap ((m' : Int) - 1) = ((m' - 1 : Nat) : Int) := by rw [IntWalk.i64_in _ (by omega)]; omega
          have HOI := Lib.hid HO2
          have HMM := Lib.hid hmm
          clear hb2 hb3 HO2 HO hne hv hmm hla hk0
          go_wp2_with (go_at_call 47; refine (hhas.out _ hbw).mono ?_; rintro e w' ⟨rfl, rfl⟩)
          go_roundw
          case rel =>
            refine ⟨k + 1, by omega, by go_num, by rw [hL1.out]; rfl, ?_, by (repeat first | with_reducible assumption | with_reducible exact Below.refl _ _ | (with_reducible refine Below.alloc ?_ ?side _; case side => (first | omega | (with_reducible exact Below.size (by assumption)) | (simp; done) | (simp; omega))) | (with_reducible refine Below.setCell ?_ ?side _; case side => (first | omega | (with_reducible exact Below.size (by assumption)) | (simp; done) | (simp; omega))) | with_reducible refine Below.drew ?_ | with_reducible refine below_drewN ?_ _ | (with_reducible refine below_step (by assumption) ?side ?_; case side => (first | omega | (with_reducible exact Below.size (by assumption)) | (simp; done) | (simp; omega))))⟩
            show World.ownsRow _ _ _ _ _ _ _
            rw [HY.out]
            have hst := (HOI.out.stored (m' - 1) (.int .i64 (v + 1))).1
            rw [flat_ints] at hst
            rw [List.length_set, HMM.out, flat_ints, List.map_set]
            exact hst
          case measure => simp [intOf]; omega
      · have HN : Hid (pcs x (k + 1) = pcs x k) := by
          show _ = _
          simp [pcs, hb2]
        clear hb2 hla
        go_wp2_with (go_at_call 47; refine (hhas.out _ hbw).mono ?_; rintro e w' ⟨rfl, rfl⟩)
        go_roundw
        case rel => exact ⟨k + 1, by omega, by go_num, by rw [hL1.out]; rfl, by rw [HN.out]; exact HO, hb⟩
        case measure => simp [intOf]; omega
    · obtain rfl : n = k := by omega
      have hknB : decide (((n : Nat) : Int) < n) = false := by simp
      obtain ⟨A, c, rfl, -, hsl⟩ := SlAt.of_own (d := (0 : Int)) encI_len HO.out rfl
      have hsI := Lib.hid (ints_iff.2 hsl)
      clear hsl
      go_wp2
      go_ret
      exact ⟨A, c, rfl, hsI.out, by (repeat first | with_reducible assumption | with_reducible exact Below.refl _ _ | refine below_drewN ?_ _ | refine Below.drew ?_ | refine Below.alloc ?_ (by first | omega | (with_reducible exact Below.size (by assumption)) | (simp; done) | (simp; omega)) _ | refine Below.setCell ?_ (by first | omega | (with_reducible exact Below.size (by assumption)) | (simp; done) | (simp; omega)) _ | refine below_step (by assumption) (by first | omega | (with_reducible exact Below.size (by assumption)) | (simp; done) | (simp; omega)) ?_)⟩
set_option maxHeartbeats 400000 in
theorem ShacklesOf_c (A B : Option Addr) (n c m d x : Nat) (q : Cb) (l : List Int) (w : World) (hn : n ≤ 40) (hm : m ≤ 40) (HX : IntsAt w B m l) (hx : Bits l m n x) :
    Calls Try.prog 49 #[.agg #[.slice A n c, .int .i64 q.need, .int .i64 q.gap, .int .i64 q.doubt, .int .i64 q.joins, .int .i64 q.least], .slice B m d] w fun e w' => e = .returned (.int .i64 (shk x n)) ∧ Below w.heap.size w w' := by
  have hle := pcs_len x n
  have hpc : ∀ V, Below w.heap.size w V → Calls Try.prog 48 #[.agg #[.slice A n c, .int .i64 q.need, .int .i64 q.gap, .int .i64 q.doubt, .int .i64 q.joins, .int .i64 q.least], .slice B m d] V fun e w' => ∃ A c, e = .returned (.slice A (pcs x n).length c) ∧ IntsAt w' A (pcs x n).length (pcs x n) ∧ Below V.heap.size V w' := fun V hV =>
    refPieces_c A B n c m d x q l V hn hm (HX.later hV) hx
  replace hpc := Lib.hid hpc
  clear HX hx
  go_enter Try.func49, Try.ntmps49
  go_wp2_with fail
  refine (hpc.out _ (by (repeat first | with_reducible assumption | with_reducible exact Below.refl _ _ | (with_reducible refine Below.alloc ?_ ?side _; case side => (first | omega | (with_reducible exact Below.size (by assumption)) | (simp; done) | (simp; omega))) | (with_reducible refine Below.setCell ?_ ?side _; case side => (first | omega | (with_reducible exact Below.size (by assumption)) | (simp; done) | (simp; omega))) | with_reducible refine Below.drew ?_ | with_reducible refine below_drewN ?_ _ | (with_reducible refine below_step (by assumption) ?side ?_; case side => (first | omega | (with_reducible exact Below.size (by assumption)) | (simp; done) | (simp; omega)))))).mono ?_
  rintro e w1 ⟨A1, c1, rfl, -, hb1⟩
  obtain ⟨m', hm'⟩ : ∃ m, (pcs x n).length = m := ⟨_, rfl⟩
  have hsh : Hid (shk x n = max 0 ((m' : Int) - 1)) := by show _ = _; unfold shk; rw [hm']
  rw [hm'] at hle ⊢
  clear hm'
  by_cases h : (m' : Int) ≤ 0
  · go_wp2
    all_goals
      go_ret
      exact ⟨ret_int (by rw [hsh.out] <;> omega), by (repeat first | with_reducible assumption | with_reducible exact Below.refl _ _ | (with_reducible refine Below.alloc ?_ ?side _; case side => (first | omega | (with_reducible exact Below.size (by assumption)) | (simp; done) | (simp; omega))) | (with_reducible refine Below.setCell ?_ ?side _; case side => (first | omega | (with_reducible exact Below.size (by assumption)) | (simp; done) | (simp; omega))) | with_reducible refine Below.drew ?_ | with_reducible refine below_drewN ?_ _ | (with_reducible refine below_step (by assumption) ?side ?_; case side => (first | omega | (with_reducible exact Below.size (by assumption)) | (simp; done) | (simp; omega))))⟩
  · go_wp2
    all_goals
      go_ret
      exact ⟨ret_int (by rw [hsh.out] <;> omega), by (repeat first | with_reducible assumption | with_reducible exact Below.refl _ _ | (with_reducible refine Below.alloc ?_ ?side _; case side => (first | omega | (with_reducible exact Below.size (by assumption)) | (simp; done) | (simp; omega))) | (with_reducible refine Below.setCell ?_ ?side _; case side => (first | omega | (with_reducible exact Below.size (by assumption)) | (simp; done) | (simp; omega))) | with_reducible refine Below.drew ?_ | with_reducible refine below_drewN ?_ _ | (with_reducible refine below_step (by assumption) ?side ?_; case side => (first | omega | (with_reducible exact Below.size (by assumption)) | (simp; done) | (simp; omega))))⟩

end Go.Proofs.Ytglpgcgidkdkiaa
