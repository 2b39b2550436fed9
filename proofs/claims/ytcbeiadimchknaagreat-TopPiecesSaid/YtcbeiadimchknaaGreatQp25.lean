/- The lists of links and the pieces of a repair (layer 7). -/
import Derived.Test.YtcbeiadimchknaaGreatQp23
import Derived.Test.YtcbeiadimchknaaGreatQp24
import Derived.Test.YtcbeiadimchknaaGreatQp02
namespace Go.Proofs.YtcbeiadimchknaaGreat
open Go.RowKit
open Go.Sort (grow)
set_option linter.unusedVariables false
set_option linter.unusedSimpArgs false

def selN (x n : Nat) (out : Bool) : List Nat := (List.range n).filter fun i => x.testBit i == out
theorem selN_true (x n : Nat) : selN x n true = memN x n := by unfold selN memN; congr 1; funext i; simp
theorem selN_false (x n : Nat) : selN x n false = lefN x n := by unfold selN lefN; congr 1; funext i; simp
theorem selN_yes {x k : Nat} {out : Bool} (h : (x.testBit k == out) = true) : selN x (k + 1) out = selN x k out ++ [k] := by simp [selN, List.range_succ, List.filter_append, h]
theorem selN_no {x k : Nat} {out : Bool} (h : (x.testBit k == out) = false) : selN x (k + 1) out = selN x k out := by simp [selN, List.range_succ, List.filter_append, h]
theorem selN_len (x n : Nat) (out : Bool) : (selN x n out).length ≤ n := by
  have := List.length_filter_le (fun i => x.testBit i == out) (List.range n)
  simpa [selN] using this
def ints (l : List Nat) : List Int := l.map fun k : Nat => (k : Int)
theorem ints_len (l : List Nat) : (ints l).length = l.length := by simp [ints]
theorem int_info_q7 : (Tryz.prog.info? 3).map (fun i => (i.zero, i.size, i.bytes)) = some (some (.int .i64 0), 1, 8) := by kernel_rfl
theorem intE_q7 : ElemT Tryz.prog 29 3 1 8 := by
  obtain ⟨i0, hi0, hz0, hz1, hz2⟩ := info_parts int_info_q7
  exact ⟨Tryz.underlying29, ⟨i0, _, hi0, hz0, hz1, hz2, rfl⟩, by omega, by omega⟩

set_option maxHeartbeats 400000 in
theorem has_c (x k : Nat) (w : World) (hx : x < 65536) (hk : k < 64) :
    Calls Tryz.prog 56 #[.int .u64 x, .int .i64 k] w fun e w' => e = .returned (.bool (x.testBit k)) ∧ w = w' := by
  go_enter Tryz.func56, Tryz.ntmps56
  go_wp2
  go_ret
  exact ⟨ret_bool (by rw [bit_u64 x k hx]), rfl⟩

set_option maxRecDepth 100000 in
set_option maxHeartbeats 1600000 in
theorem list_c (x n : Nat) (out : Bool) (w : World) (hx : x < 65536) (hn : n ≤ 40) :
    Calls Tryz.prog 27 #[.int .u64 x, .int .i64 n, .bool out] w
      fun e w' => ∃ A c, e = .returned (.slice A (selN x n out).length c) ∧ IntsAt w' A (selN x n out).length (ints (selN x n out)) ∧ Below w.heap.size w w' := by
  go_enter Tryz.func27, Tryz.ntmps27
  go_wp2
  have W_ := Lib.hid (World.ownsRow_nil w w.heap.size 3 1)
  go_loopw [7, 10] (fun v i (wr : World) => ∃ k : Nat, k ≤ n ∧ i = .int .i64 k ∧ Hid (wr.ownsRow w.heap.size 3 1 v (selN x k out).length ((ints (selN x k out)).flatMap encI)) ∧ Below w.heap.size w wr) (fun _ i _ => n - (intOf i).toNat)
  case atStart => exact ⟨0, by omega, rfl, W_, Below.refl _ _⟩
  case round =>
    obtain ⟨k, hk, rfl, HO, hb⟩ := hrel
    have zb := hb.size
    have hle := selN_len x k out
    by_cases hkn : k < n
    · have hknB : decide ((k : Int) < n) = true := by simp; omega
      cases e2 : (x.testBit k == out)
      · have HNo := Lib.hid (selN_no e2)
        obtain ⟨b, hb2⟩ : ∃ b, x.testBit k = b := ⟨_, rfl⟩
        have hhas : ∀ W, Calls Tryz.prog 56 #[.int .u64 x, .int .i64 k] W fun e W' => e = .returned (.bool b) ∧ W = W' := fun W => by rw [← hb2]; exact has_c x k W hx (by omega)
        rw [hb2] at e2
        replace hhas := Lib.hid hhas
        clear hb2
        go_wp2_with (go_at_call 56; refine (hhas.out _).mono ?_; rintro e w' ⟨rfl, rfl⟩)
        refine ⟨⟨k + 1, by omega, by simp, ?_, hb⟩, by simp [intOf]; omega⟩
        rw [HNo.out]; exact HO
      · have HYe := Lib.hid (selN_yes e2)
        obtain ⟨b, hb2⟩ : ∃ b, x.testBit k = b := ⟨_, rfl⟩
        have hhas : ∀ W, Calls Tryz.prog 56 #[.int .u64 x, .int .i64 k] W fun e W' => e = .returned (.bool b) ∧ W = W' := fun W => by rw [← hb2]; exact has_c x k W hx (by omega)
        rw [hb2] at e2
        replace hhas := Lib.hid hhas
        clear hb2
        go_wp2_with (first | (go_at_call 56; refine (hhas.out _).mono ?_; rintro e w' ⟨rfl, rfl⟩) | (at_builtin; go_must (refine wpList_append_T _ (d := (0 : Int)) rfl (.tmp 18) (.tmp 20) _ rfl w.heap.size _ 1 8 intE_q7 encI_len encI_one u7 u7.ownBlock (selN x k out).length (ints (selN x k out)) rfl rfl ?_ _ 1 _ [(k : Int)] rfl ?_ ?_ ?_ ?_; (exact own_below HO.out (by (repeat first | with_reducible assumption | with_reducible exact Below.refl _ _ | (with_reducible refine Below.alloc ?_ ?side _; case side => (first | omega | (with_reducible exact Below.size (by assumption)) | (simp; done) | (simp; omega))) | (with_reducible refine Below.setCell ?_ ?side _; case side => (first | omega | (with_reducible exact Below.size (by assumption)) | (simp; done) | (simp; omega))) | with_reducible refine Below.drew ?_ | with_reducible refine below_drewN ?_ _ | (with_reducible refine below_step (by assumption) ?side ?_; case side => (first | omega | (with_reducible exact Below.size (by assumption)) | (simp; done) | (simp; omega)))))); (exact sl_new encI_len rfl rfl rfl); omega; (simp; omega); (intro v' w5 hown5 hg5 hat5; have hb5 : Below w.heap.size w w5 := (Below.grown (by (repeat first | with_reducible assumption | with_reducible exact Below.refl _ _ | (with_reducible refine Below.alloc ?_ ?side _; case side => (first | omega | (with_reducible exact Below.size (by assumption)) | (simp; done) | (simp; omega))) | (with_reducible refine Below.setCell ?_ ?side _; case side => (first | omega | (with_reducible exact Below.size (by assumption)) | (simp; done) | (simp; omega))) | with_reducible refine Below.drew ?_ | with_reducible refine below_drewN ?_ _ | (with_reducible refine below_step (by assumption) ?side ?_; case side => (first | omega | (with_reducible exact Below.size (by assumption)) | (simp; done) | (simp; omega))))) hg5 (by simp; omega) (own_ge HO.out)); have hown6 : Hid (w5.ownsRow w.heap.size 3 1 v' (selN x (k + 1) out).length ((ints (selN x (k + 1) out)).flatMap encI)) := (by rw [HYe.out, List.length_append, ints, List.map_append]; exact hown5); clear hown5 hg5 hat5))))
        refine ⟨⟨k + 1, by omega, by simp, hown6, hb5⟩, by simp [intOf]; omega⟩
    · obtain rfl : n = k := by omega
      have hknB : decide (((n : Nat) : Int) < n) = false := by simp
      obtain ⟨A, c, rfl, -, hsl⟩ := SlAt.of_own (d := (0 : Int)) encI_len HO.out (ints_len _)
      have hsI := Lib.hid (ints_iff.2 hsl)
      clear hsl
      go_wp2
      go_ret
      exact ⟨A, c, rfl, hsI.out, hb⟩
/-- facts on the pieces -/
theorem bump_len (l : List Int) : (bump l).length = l.length := by
  induction l with
  | nil => rfl
  | cons a l ih =>
    cases l with
    | nil => rfl
    | cons b l => simp only [bump, List.length_cons] at ih ⊢; omega
theorem bump_set {l : List Int} (h : l ≠ []) : bump l = l.set (l.length - 1) (iAt l (l.length - 1) + 1) := by
  induction l with
  | nil => exact absurd rfl h
  | cons a l ih =>
    cases l with
    | nil => rfl
    | cons b l =>
      have h1 := ih (by simp)
      simp only [bump, h1, List.length_cons, Nat.add_sub_cancel]
      rw [List.set_cons_succ]
      congr 1
theorem pcs_len (x n : Nat) : (pcs x n).length ≤ n := by
  induction n with
  | zero => simp [pcs]
  | succ n ih =>
    simp only [pcs]
    cases x.testBit n <;> cases (n == 0 || x.testBit (n - 1)) <;> simp [bump_len] <;> omega
theorem pcs_ne {x n : Nat} (h : n ≠ 0) (hb : x.testBit (n - 1) = false) : pcs x n ≠ [] := by
  induction n with
  | zero => exact absurd rfl h
  | succ n ih =>
    rw [Nat.add_sub_cancel] at hb
    simp only [pcs, hb, cond_false]
    by_cases h0 : n = 0
    · subst h0; simp
    · cases e : x.testBit (n - 1)
      · have h1 := ih h0 e
        have e0 : (n == 0) = false := by simpa using h0
        rw [e0]
        simp only [Bool.or_false, cond_false]
        intro e2
        have := bump_len (pcs x n)
        rw [e2] at this
        exact h1 (List.eq_nil_of_length_eq_zero this.symm)
      · simp
theorem pcs_bd (x n : Nat) : ∀ v ∈ pcs x n, 1 ≤ v ∧ v ≤ n := by
  induction n with
  | zero => simp [pcs]
  | succ n ih =>
    have hb : ∀ l : List Int, (∀ v ∈ l, 1 ≤ v ∧ v ≤ (n : Int)) → ∀ v ∈ bump l, 1 ≤ v ∧ v ≤ ((n + 1 : Nat) : Int) := fun l => by
      induction l with
      | nil => intro _ v hv; simp [bump] at hv
      | cons a l ihl =>
        intro h v hv
        cases l with
        | nil =>
          obtain rfl : v = a + 1 := by simpa [bump] using hv
          have := h a (by simp); omega
        | cons b l =>
          rcases List.mem_cons.1 (show v ∈ a :: bump (b :: l) from hv) with rfl | hv
          · have := h v (by simp); omega
          · exact ihl (fun u hu => h u (by simp at hu ⊢; exact .inr hu)) v hv
    intro v hv
    simp only [pcs] at hv
    cases e1 : x.testBit n <;> rw [e1] at hv
    · cases e2 : (n == 0 || x.testBit (n - 1)) <;> rw [e2] at hv
      · exact hb _ ih v hv
      · rcases List.mem_append.1 (show v ∈ pcs x n ++ [1] from hv) with hv | hv
        · have := ih v hv; omega
        · obtain rfl : v = 1 := by simpa using hv
          omega
    · have := ih v hv; omega
theorem flat_ints (l : List Int) : l.flatMap encI = l.map (Value.int .i64) := by
  induction l with
  | nil => rfl
  | cons a l ih => rw [List.flatMap_cons, List.map_cons, ih]; rfl
theorem iAt_mem_q7 {l : List Int} {k : Nat} (h : k < l.length) : iAt l k ∈ l := by
  unfold iAt; rw [List.getD_eq_getElem?_getD, List.getElem?_eq_getElem h]; exact List.getElem_mem h
set_option maxRecDepth 100000 in
set_option maxHeartbeats 1600000 in
theorem pieces_c (x n : Nat) (w : World) (hx : x < 65536) (hn : n ≤ 40) :
    Calls Tryz.prog 58 #[.int .u64 x, .int .i64 n] w
      fun e w' => ∃ A c, e = .returned (.slice A (pcs x n).length c) ∧ IntsAt w' A (pcs x n).length (pcs x n) ∧ Below w.heap.size w w' := by
  go_enter Tryz.func58, Tryz.ntmps58
  go_wp2
  have W_ := Lib.hid (World.ownsRow_nil w w.heap.size 3 1)
  go_loopw [5, 8] (fun v i (wr : World) => ∃ k : Nat, k ≤ n ∧ i = .int .i64 k ∧ Hid (wr.ownsRow w.heap.size 3 1 v (pcs x k).length ((pcs x k).flatMap encI)) ∧ Below w.heap.size w wr) (fun _ i _ => n - (intOf i).toNat)
  case atStart => exact ⟨0, by omega, rfl, W_, Below.refl _ _⟩
  case round =>
    obtain ⟨k, hk, rfl, HO, hb⟩ := hrel
    have zb := hb.size
    have hle := pcs_len x k
    by_cases hkn : k < n
    · have hknB : decide ((k : Int) < n) = true := by simp; omega
      obtain ⟨b, hb2⟩ : ∃ b, x.testBit k = b := ⟨_, rfl⟩
      have hhas : ∀ W, Calls Tryz.prog 56 #[.int .u64 x, .int .i64 k] W fun e W' => e = .returned (.bool b) ∧ W = W' := fun W => by rw [← hb2]; exact has_c x k W hx (by omega)
      replace hhas := Lib.hid hhas
      cases b
      · by_cases h0 : k = 0
        · subst h0
          have HY : Hid (pcs x (0 + 1) = [1]) := by
            show _ = _
            simp [pcs, hb2]
          clear hb2
          go_wp2_with (first | (go_at_call 56; refine (hhas.out _).mono ?_; rintro e w' ⟨rfl, rfl⟩) | (at_builtin; go_must (refine wpList_append_T _ (d := (0 : Int)) rfl (.tmp 32) (.tmp 33) _ rfl w.heap.size _ 1 8 intE_q7 encI_len encI_one u5 u5.ownBlock 0 ([] : List Int) rfl rfl ?_ _ 1 _ [(1 : Int)] rfl ?_ ?_ ?_ ?_; (exact own_below HO.out (by (repeat first | with_reducible assumption | with_reducible exact Below.refl _ _ | (with_reducible refine Below.alloc ?_ ?side _; case side => (first | omega | (with_reducible exact Below.size (by assumption)) | (simp; done) | (simp; omega))) | (with_reducible refine Below.setCell ?_ ?side _; case side => (first | omega | (with_reducible exact Below.size (by assumption)) | (simp; done) | (simp; omega))) | with_reducible refine Below.drew ?_ | with_reducible refine below_drewN ?_ _ | (with_reducible refine below_step (by assumption) ?side ?_; case side => (first | omega | (with_reducible exact Below.size (by assumption)) | (simp; done) | (simp; omega)))))); (exact sl_new encI_len rfl rfl rfl); omega; (simp; omega); (intro v' w5 hown5 hg5 hat5; have hb5 : Below w.heap.size w w5 := (Below.grown (by (repeat first | with_reducible assumption | with_reducible exact Below.refl _ _ | (with_reducible refine Below.alloc ?_ ?side _; case side => (first | omega | (with_reducible exact Below.size (by assumption)) | (simp; done) | (simp; omega))) | (with_reducible refine Below.setCell ?_ ?side _; case side => (first | omega | (with_reducible exact Below.size (by assumption)) | (simp; done) | (simp; omega))) | with_reducible refine Below.drew ?_ | with_reducible refine below_drewN ?_ _ | (with_reducible refine below_step (by assumption) ?side ?_; case side => (first | omega | (with_reducible exact Below.size (by assumption)) | (simp; done) | (simp; omega))))) hg5 (by simp; omega) (own_ge HO.out)); have hown6 : Hid (w5.ownsRow w.heap.size 3 1 v' (pcs x (0 + 1)).length ((pcs x (0 + 1)).flatMap encI)) := (by rw [HY.out]; exact hown5); clear hown5 hg5 hat5))))
          refine ⟨⟨0 + 1, by omega, by simp, hown6, hb5⟩, by simp [intOf]; omega⟩
        · obtain ⟨b', hb3⟩ : ∃ b, x.testBit (k - 1) = b := ⟨_, rfl⟩
          have hhas2 : ∀ W, Calls Tryz.prog 56 #[.int .u64 x, .int .i64 ((k : Int) - 1)] W fun e W' => e = .returned (.bool b') ∧ W = W' := fun W => by
            rw [← hb3, show (k : Int) - 1 = ((k - 1 : Nat) : Int) by omega]; exact has_c x (k - 1) W hx (by omega)
          replace hhas2 := Lib.hid hhas2
          have hk0 : ((k : Int) == 0) = false := by simp; omega
          have hk0' : (k == 0) = false := by simpa using h0
          cases b'
          · have HY : Hid (pcs x (k + 1) = (pcs x k).set ((pcs x k).length - 1) (iAt (pcs x k) ((pcs x k).length - 1) + 1)) := by
              show _ = _
              rw [← bump_set (pcs_ne h0 hb3)]
              simp [pcs, hb2, hb3, hk0']
            have hne := pcs_ne h0 hb3
            have hbd := pcs_bd x k _ (iAt_mem_q7 (l := pcs x k) (k := (pcs x k).length - 1) (by have := List.length_pos_iff.2 hne; omega))
            have hm := List.length_pos_iff.2 hne
            obtain ⟨m, hmm⟩ : ∃ m, (pcs x k).length = m := ⟨_, rfl⟩
            obtain ⟨v, hv⟩ : ∃ v, iAt (pcs x k) (m - 1) = v := ⟨_, rfl⟩
            have HO2 := HO.out
            rw [hmm] at HO2 hm hle hbd HY
            rw [hv] at hbd HY
            obtain ⟨g, cap, rfl, hbg, hgl⟩ := HO2.form hm
            have c0 := HO2.cellAt (m - 1) (by omega)
            rw [flat_ints, List.getElem?_map, List.getElem?_eq_getElem (by omega), Option.map_some, show (pcs x k)[m - 1]'(by omega) = v by rw [← hv]; unfold iAt; rw [List.getD_eq_getElem?_getD, List.getElem?_eq_getElem (by omega)]; rfl] at c0
            have f0 := HO2.frozenAt (m - 1)
            have hm1 : IntKind.i64.wrap ((m : Int) - 1) = ((m - 1 : Nat) : Int) := by rw [IntWalk.i64_in _ (by omega)]; omega
            have HOI := Lib.hid HO2
            have HMM := Lib.hid hmm
            clear hb2 hb3 HO2 HO hne hv hmm
            go_wp2_with (go_at_call 56; (first | (with_reducible refine (hhas.out _).mono ?_) | (with_reducible refine (hhas2.out _).mono ?_)); rintro e w' ⟨rfl, rfl⟩)
            refine ⟨⟨k + 1, by omega, by simp, ?_, by (repeat first | with_reducible assumption | with_reducible exact Below.refl _ _ | (with_reducible refine Below.alloc ?_ ?side _; case side => (first | omega | (with_reducible exact Below.size (by assumption)) | (simp; done) | (simp; omega))) | (with_reducible refine Below.setCell ?_ ?side _; case side => (first | omega | (with_reducible exact Below.size (by assumption)) | (simp; done) | (simp; omega))) | with_reducible refine Below.drew ?_ | with_reducible refine below_drewN ?_ _ | (with_reducible refine below_step (by assumption) ?side ?_; case side => (first | omega | (with_reducible exact Below.size (by assumption)) | (simp; done) | (simp; omega))))⟩, by simp [intOf]; omega⟩
            rw [HY.out]
            have hst := (HOI.out.stored (m - 1) (.int .i64 (v + 1))).1
            rw [flat_ints] at hst
            rw [List.length_set, HMM.out, flat_ints, List.map_set]
            exact hst
          · have HY : Hid (pcs x (k + 1) = pcs x k ++ [1]) := by
              show _ = _
              simp [pcs, hb2, hb3]
            clear hb2 hb3
            go_wp2_with (first | (go_at_call 56; (first | (with_reducible refine (hhas.out _).mono ?_) | (with_reducible refine (hhas2.out _).mono ?_)); rintro e w' ⟨rfl, rfl⟩) | (at_builtin; go_must (refine wpList_append_T _ (d := (0 : Int)) rfl (.tmp 32) (.tmp 33) _ rfl w.heap.size _ 1 8 intE_q7 encI_len encI_one u5 u5.ownBlock (pcs x k).length (pcs x k) rfl rfl ?_ _ 1 _ [(1 : Int)] rfl ?_ ?_ ?_ ?_; (exact own_below HO.out (by (repeat first | with_reducible assumption | with_reducible exact Below.refl _ _ | (with_reducible refine Below.alloc ?_ ?side _; case side => (first | omega | (with_reducible exact Below.size (by assumption)) | (simp; done) | (simp; omega))) | (with_reducible refine Below.setCell ?_ ?side _; case side => (first | omega | (with_reducible exact Below.size (by assumption)) | (simp; done) | (simp; omega))) | with_reducible refine Below.drew ?_ | with_reducible refine below_drewN ?_ _ | (with_reducible refine below_step (by assumption) ?side ?_; case side => (first | omega | (with_reducible exact Below.size (by assumption)) | (simp; done) | (simp; omega)))))); (exact sl_new encI_len rfl rfl rfl); omega; (simp; omega); (intro v' w5 hown5 hg5 hat5; have hb5 : Below w.heap.size w w5 := (Below.grown (by (repeat first | with_reducible assumption | with_reducible exact Below.refl _ _ | (with_reducible refine Below.alloc ?_ ?side _; case side => (first | omega | (with_reducible exact Below.size (by assumption)) | (simp; done) | (simp; omega))) | (with_reducible refine Below.setCell ?_ ?side _; case side => (first | omega | (with_reducible exact Below.size (by assumption)) | (simp; done) | (simp; omega))) | with_reducible refine Below.drew ?_ | with_reducible refine below_drewN ?_ _ | (with_reducible refine below_step (by assumption) ?side ?_; case side => (first | omega | (with_reducible exact Below.size (by assumption)) | (simp; done) | (simp; omega))))) hg5 (by simp; omega) (own_ge HO.out)); have hown6 : Hid (w5.ownsRow w.heap.size 3 1 v' (pcs x (k + 1)).length ((pcs x (k + 1)).flatMap encI)) := (by rw [HY.out, List.length_append]; exact hown5); clear hown5 hg5 hat5))))
            refine ⟨⟨k + 1, by omega, by simp, hown6, hb5⟩, by simp [intOf]; omega⟩
      · have HN : Hid (pcs x (k + 1) = pcs x k) := by
          show _ = _
          simp [pcs, hb2]
        clear hb2
        go_wp2_with (go_at_call 56; refine (hhas.out _).mono ?_; rintro e w' ⟨rfl, rfl⟩)
        refine ⟨⟨k + 1, by omega, by simp, ?_, hb⟩, by simp [intOf]; omega⟩
        rw [HN.out]; exact HO
    · obtain rfl : n = k := by omega
      have hknB : decide (((n : Nat) : Int) < n) = false := by simp
      obtain ⟨A, c, rfl, -, hsl⟩ := SlAt.of_own (d := (0 : Int)) encI_len HO.out rfl
      have hsI := Lib.hid (ints_iff.2 hsl)
      clear hsl
      go_wp2
      go_ret
      exact ⟨A, c, rfl, hsI.out, hb⟩

end Go.Proofs.YtcbeiadimchknaaGreat
