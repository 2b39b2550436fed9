/- always, Must and Spared of the specification (layer 7). -/
import Derived.Test.YthjjakhmbgnnnaaRs7
import Derived.Test.YthjjakhmbgnnnaaEl7
namespace Go.Proofs.Ythjjakhmbgnnnaa
open Go.RowKit
open Go.Sort (grow)
set_option linter.unusedVariables false

def cnL (S : List Nat) (i k : Nat) : Nat := ((S.take k).filter fun x => x.testBit i).length
theorem cnL_succ {S : List Nat} {i k : Nat} (hk : k < S.length) : cnL S i (k + 1) = cnL S i k + (if (uAt S k).testBit i = true then 1 else 0) := by
  unfold cnL
  rw [List.take_add_one, List.getElem?_eq_getElem hk, List.filter_append, List.length_append]
  congr 1
  have : uAt S k = S[k] := by unfold uAt; rw [List.getD_eq_getElem?_getD, List.getElem?_eq_getElem hk]; rfl
  rw [this]
  cases e : S[k].testBit i <;> simp [e]
theorem cnL_le (S : List Nat) (i k : Nat) : cnL S i k ≤ k := by
  unfold cnL
  exact Nat.le_trans (List.length_filter_le _ _) (List.length_take_le _ _)
def alP (S : List Nat) (all : Bool) (i : Nat) : Bool := bif all then cnL S i S.length == S.length else cnL S i S.length == 0
def alK (S : List Nat) (all : Bool) (k : Nat) : List Nat := (List.range k).filter (alP S all)
theorem alK_succ {S : List Nat} {all : Bool} {k : Nat} : alK S all (k + 1) = alK S all k ++ (if alP S all k = true then [k] else []) := by
  unfold alK
  rw [List.range_succ, List.filter_append]
  congr 1
  cases h : alP S all k <;> simp [h]
theorem alK_len (S : List Nat) (all : Bool) (k : Nat) : (alK S all k).length ≤ k := by
  unfold alK
  have := List.length_filter_le (alP S all) (List.range k)
  simpa using this
theorem al_mu (y : Nat) (r : List Nat) (n : Nat) : alK (y :: r) true n = memN (andL y (y :: r)) n := by
  unfold alK memN
  refine List.filter_congr fun i _ => ?_
  unfold alP cnL
  rw [cond_true, List.take_length, and_bit, Bool.eq_iff_iff, beq_iff_eq, List.length_filter_eq_length_iff]
  simp
theorem al_sp (y : Nat) (r : List Nat) (n : Nat) : alK (y :: r) false n = lefN (orL (y :: r)) n := by
  unfold alK lefN
  refine List.filter_congr fun i _ => ?_
  unfold alP cnL
  rw [cond_false, List.take_length, or_bit, Bool.eq_iff_iff, beq_iff_eq, List.length_eq_zero_iff, List.filter_eq_nil_iff]
  simp
def alC (n : Nat) (ls : List Sp) (q : Cb) (all : Bool) : List Nat := bif all then muL n ls q else spL n ls q
theorem al_cases (n : Nat) (ls : List Sp) (q : Cb) (all : Bool) : (∃ z, z ≠ 0 ∧ erS n ls q = z ∧ shC n ls q = [] ∧ alC n ls q all = []) ∨ (erS n ls q = 0 ∧ alC n ls q all = alK (shC n ls q) all n) := by
  rcases er_shC n ls q with ⟨h, a, b⟩ | ⟨h, a, b, d⟩ | ⟨h, a, b, y, r, d, -⟩
  · exact .inl ⟨70, by omega, a, b, by unfold alC muL spL; rw [h]; cases all <;> rfl⟩
  · exact .inl ⟨3, by omega, a, b, by unfold alC muL spL; rw [h, d]; cases all <;> rfl⟩
  · refine .inr ⟨a, ?_⟩
    rw [b, d]
    unfold alC muL spL
    rw [h, d]
    cases all
    · exact (al_sp y r n).symm
    · exact (al_mu y r n).symm
theorem shC_len (n : Nat) (ls : List Sp) (q : Cb) : (shC n ls q).length ≤ 4096 := by
  unfold shC
  cases h : ckC n ls q
  · simp
  · rw [cond_true]
    have hn12 := ck_len h
    have h1 : shL q ls n = rsK n (goods q ls n) (goods q ls n).length := by unfold rsK shL; rw [List.take_length]
    rw [h1]
    have h2 := rsK_len n (goods q ls n) (goods q ls n).length
    have h3 := goods_len q ls n
    have h4 : 2 ^ n ≤ 2 ^ 12 := Nat.pow_le_pow_right (by omega) hn12
    omega
set_option maxRecDepth 100000 in
set_option maxHeartbeats 3200000 in
theorem always_c (A : Option Addr) (n c : Nat) (q : Cb) (all : Bool) (ls : List Sp) (w : World) (hn : n ≤ 40) (HL : SpsAt w A n ls) :
    Calls Try.prog 61 #[.agg #[.slice A n c, .int .i64 q.need, .int .i64 q.gap, .int .i64 q.doubt, .int .i64 q.joins, .int .i64 q.least], .bool all] w (LiRet (alC n ls q all) (erS n ls q) w) := by
  have hsh : ∀ V, Below w.heap.size w V → Calls Try.prog 60 #[.agg #[.slice A n c, .int .i64 q.need, .int .i64 q.gap, .int .i64 q.doubt, .int .i64 q.joins, .int .i64 q.least]] V (SsRet (shC n ls q) n (erS n ls q) V) := fun V hV => refshortest_c A n c q ls V hn (HL.later hV)
  have hsl := shC_len n ls q
  clear HL
  rcases al_cases n ls q all with ⟨z, hz, a, b, e⟩ | ⟨a, e⟩
  · rw [a, b] at hsh
    rw [a, e]
    have hzB : (z != 0) = true := by simpa using hz
    replace hsh := Lib.hid hsh
    clear hz a b e hsl
    go_enter Try.func61, Try.ntmps61
    go_wp2_with fail
    refine (hsh.out _ (by (repeat first | with_reducible assumption | with_reducible exact Below.refl _ _ | (with_reducible refine Below.alloc ?_ ?side _; case side => (first | omega | (with_reducible exact Below.size (by assumption)) | (simp; done) | (simp; omega))) | (with_reducible refine Below.setCell ?_ ?side _; case side => (first | omega | (with_reducible exact Below.size (by assumption)) | (simp; done) | (simp; omega))) | with_reducible refine Below.drew ?_ | with_reducible refine below_drewN ?_ _ | (with_reducible refine below_step (by assumption) ?side ?_; case side => (first | omega | (with_reducible exact Below.size (by assumption)) | (simp; done) | (simp; omega)))))).mono ?_
    rintro e w1 ⟨A1, c1, hs, rfl, -, hb1⟩
    go_wp2
    exact bodyPost_ret (v := .tuple #[.slice none 0 0, .int .i64 z]) (by simp [results, Try.results61, go_sem]) rfl (by show LiRet [] z w _ _; exact ⟨none, 0, rfl, ints_none _, by (repeat first | with_reducible assumption | with_reducible exact Below.refl _ _ | (with_reducible refine Below.alloc ?_ ?side _; case side => (first | omega | (with_reducible exact Below.size (by assumption)) | (simp; done) | (simp; omega))) | (with_reducible refine Below.setCell ?_ ?side _; case side => (first | omega | (with_reducible exact Below.size (by assumption)) | (simp; done) | (simp; omega))) | with_reducible refine Below.drew ?_ | with_reducible refine below_drewN ?_ _ | (with_reducible refine below_step (by assumption) ?side ?_; case side => (first | omega | (with_reducible exact Below.size (by assumption)) | (simp; done) | (simp; omega))))⟩)
  · rw [a] at hsh
    rw [a, e]
    obtain ⟨S, hS⟩ : ∃ S, shC n ls q = S := ⟨_, rfl⟩
    rw [hS] at hsh hsl ⊢
    obtain ⟨m, hm⟩ : ∃ m, S.length = m := ⟨_, rfl⟩
    unfold SsRet at hsh
    rw [hm] at hsh hsl
    have HM := Lib.hid hm
    replace hsh := Lib.hid hsh
    clear a e hS hm
    go_enter Try.func61, Try.ntmps61
    go_wp2_with fail
    refine (hsh.out _ (by (repeat first | with_reducible assumption | with_reducible exact Below.refl _ _ | (with_reducible refine Below.alloc ?_ ?side _; case side => (first | omega | (with_reducible exact Below.size (by assumption)) | (simp; done) | (simp; omega))) | (with_reducible refine Below.setCell ?_ ?side _; case side => (first | omega | (with_reducible exact Below.size (by assumption)) | (simp; done) | (simp; omega))) | with_reducible refine Below.drew ?_ | with_reducible refine below_drewN ?_ _ | (with_reducible refine below_step (by assumption) ?side ?_; case side => (first | omega | (with_reducible exact Below.size (by assumption)) | (simp; done) | (simp; omega)))))).mono ?_
    rintro e w1 ⟨A1, c1, hds, rfl, hss, hb1⟩
    have HSS := Lib.hid hss
    have d0 := Lib.hid (fun j => (hb1.cell (p := ⟨w.heap.size, j, none⟩) (by simp)).trans ((al1_0 rfl).2.1 j))
    have B1 : Below w.heap.size w w1 := by (repeat first | with_reducible assumption | with_reducible exact Below.refl _ _ | (with_reducible refine Below.alloc ?_ ?side _; case side => (first | omega | (with_reducible exact Below.size (by assumption)) | (simp; done) | (simp; omega))) | (with_reducible refine Below.setCell ?_ ?side _; case side => (first | omega | (with_reducible exact Below.size (by assumption)) | (simp; done) | (simp; omega))) | with_reducible refine Below.drew ?_ | with_reducible refine below_drewN ?_ _ | (with_reducible refine below_step (by assumption) ?side ?_; case side => (first | omega | (with_reducible exact Below.size (by assumption)) | (simp; done) | (simp; omega))))
    have n1 : w.heap.size < w1.heap.size := by have := hb1.size; simp at this; omega
    have W_ := Lib.hid (World.ownsRow_nil w1 w1.heap.size 3 1)
    clear hss hb1
    go_wp2_with fail
    go_loopw [8, 9, 10, 11] (fun v i _ _ (wr : World) => ∃ k : Nat, k ≤ n ∧ i = .int .i64 k ∧ Hid (wr.ownsRow w1.heap.size 3 1 v (alK S all k).length ((ints (alK S all k)).flatMap encI)) ∧ Below w1.heap.size w1 wr) (fun _ i _ _ _ => n - (intOf i).toNat)
    case atStart => exact ⟨0, by omega, rfl, W_, Below.refl _ _⟩
    case round =>
      obtain ⟨k, hk, rfl, HO, hb⟩ := hrel
      have zb := hb.size
      have dd := fun j => (hb.cell (p := ⟨w.heap.size, j, none⟩) n1).trans (d0.out j)
      have nn : w.heap.size < wr.heap.size := by omega
      have hle := alK_len S all k
      by_cases hkn : k < n
      · have hknB : decide ((k : Int) < n) = true := by simp; omega
        obtain ⟨wo, rfl⟩ : ∃ wo : World, wo = wr := ⟨_, rfl⟩
        go_wp2_with fail
        clear dd
        go_loop [10, 11] (fun a i => ∃ j : Nat, j ≤ m ∧ i = .int .i64 j ∧ a = .int .i64 (cnL S k j)) (fun _ i => m - (intOf i).toNat)
        case atStart => exact ⟨0, by omega, rfl, by simp [cnL]⟩
        case round =>
          obtain ⟨j, hj, rfl, rfl⟩ := hrel
          have hcl := cnL_le S k j
          by_cases hjm : j < m
          · have hjB : decide ((j : Int) < m) = true := by simp; omega
            have HC := Lib.hid (cnL_succ (S := S) (i := k) (k := j) (by rw [HM.out]; exact hjm))
            obtain ⟨b1, o1, rfl, hb1, x1, i1⟩ := (HSS.out.later hb).get hjm
            rw [lists_at (by rw [HM.out]; exact hjm)] at i1
            obtain ⟨h1, hh1⟩ : ∃ h, hAt hds j = h := ⟨_, rfl⟩
            rw [hh1] at x1 i1
            have hlen1 : (memN (uAt S j) n).length = h1.n := by have := i1.1; rw [ints_len] at this; exact this
            have hl1 := mem_len (uAt S j) n
            have hin := in7_c h1.A h1.n h1.c (k : Int) _ wo (by omega) i1
            rw [← hlen1, mem_any, decide_eq_true hkn, Bool.true_and, hlen1] at hin
            obtain ⟨b, hb2⟩ : ∃ b, (uAt S j).testBit k = b := ⟨_, rfl⟩
            rw [hb2] at hin HC
            replace hin := Lib.hid hin
            clear hb2 hlen1 hl1 i1 hh1
            obtain ⟨C, hC⟩ : ∃ C, cnL S k j = C := ⟨_, rfl⟩
            rw [hC] at HC hcl ⊢
            clear hC
            cases b
            · go_wp2_with (go_at_call 62; refine hin.out.mono ?_; rintro e w' ⟨rfl, rfl⟩)
              go_round
              case rel => exact ⟨j + 1, by omega, by go_num, by rw [HC.out]; rfl⟩
              case measure => simp [intOf]; omega
            · go_wp2_with (go_at_call 62; refine hin.out.mono ?_; rintro e w' ⟨rfl, rfl⟩)
              go_round
              case rel => exact ⟨j + 1, by omega, by go_num, by rw [HC.out, if_pos (by simp)]; go_num⟩
              case measure => simp [intOf]; omega
          · obtain rfl : j = m := by omega
            have hjB : decide (((j : Nat) : Int) < j) = false := by simp
            have HP : Hid (alP S all k = bif all then cnL S k j == j else cnL S k j == 0) := by
              show _ = _
              unfold alP; rw [HM.out]
            have HS2 := Lib.hid (alK_succ (S := S) (all := all) (k := k))
            obtain ⟨C, hC⟩ : ∃ C, cnL S k j = C := ⟨_, rfl⟩
            rw [hC] at HP hcl ⊢
            clear hC
            cases all
            · cases e2 : (C == 0)
              · rw [cond_false, e2] at HP
                have HN : Hid (alK S false (k + 1) = alK S false k) := by
                  show _ = _
                  rw [HS2.out, HP.out]; simp
                have e3 : ((C : Int) == 0) = false := by simpa using e2
                clear HS2 HP
                go_wp2_with fail
                refine ⟨⟨k + 1, by omega, by go_num, ?_, hb⟩, by simp [intOf]; omega⟩
                rw [HN.out]; exact HO
              · rw [cond_false, e2] at HP
                have HY : Hid (alK S false (k + 1) = alK S false k ++ [k]) := by
                  show _ = _
                  rw [HS2.out, HP.out]; simp
                have e3 : ((C : Int) == 0) = true := by simpa using e2
                clear HS2 HP
                go_wp2_with (at_builtin; go_must (refine wpList_append_T _ (d := (0 : Int)) rfl (.tmp 56) (.tmp 58) _ rfl w1.heap.size _ 1 8 intE encI_len encI_one u8 u8.ownBlock (alK S false k).length (ints (alK S false k)) rfl rfl ?_ _ 1 _ [(k : Int)] rfl ?_ ?_ ?_ ?_; (exact HO.out.alloc _); (exact sl_new encI_len rfl rfl rfl); omega; (simp only [World.size_alloc]; omega); (intro v' w5 hown5 hg5 hat5; have hb5 : Below w1.heap.size w1 w5 := (Below.grown (by (repeat first | with_reducible assumption | with_reducible exact Below.refl _ _ | (with_reducible refine Below.alloc ?_ ?side _; case side => (first | omega | (with_reducible exact Below.size (by assumption)) | (simp; done) | (simp; omega))) | (with_reducible refine Below.setCell ?_ ?side _; case side => (first | omega | (with_reducible exact Below.size (by assumption)) | (simp; done) | (simp; omega))) | with_reducible refine Below.drew ?_ | with_reducible refine below_drewN ?_ _ | (with_reducible refine below_step (by assumption) ?side ?_; case side => (first | omega | (with_reducible exact Below.size (by assumption)) | (simp; done) | (simp; omega))))) hg5 (by simp only [World.size_alloc]; omega) (own_ge HO.out)); have hown6 : Hid (w5.ownsRow w1.heap.size 3 1 v' (alK S false (k + 1)).length ((ints (alK S false (k + 1))).flatMap encI)) := (by rw [HY.out, List.length_append, ints, List.map_append]; exact hown5); clear hown5 hg5 hat5)))
                exact ⟨⟨k + 1, by omega, by go_num, hown6, hb5⟩, by simp [intOf]; omega⟩
            · cases e2 : (C == j)
              · rw [cond_true, e2] at HP
                have HN : Hid (alK S true (k + 1) = alK S true k) := by
                  show _ = _
                  rw [HS2.out, HP.out]; simp
                have e3 : ((C : Int) == (j : Int)) = false := by simp at e2 ⊢; omega
                clear HS2 HP
                go_wp2_with fail
                refine ⟨⟨k + 1, by omega, by go_num, ?_, hb⟩, by simp [intOf]; omega⟩
                rw [HN.out]; exact HO
              · rw [cond_true, e2] at HP
                have HY : Hid (alK S true (k + 1) = alK S true k ++ [k]) := by
                  show _ = _
                  rw [HS2.out, HP.out]; simp
                have e3 : ((C : Int) == (j : Int)) = true := by simp at e2 ⊢; omega
                clear HS2 HP
                go_wp2_with (at_builtin; go_must (refine wpList_append_T _ (d := (0 : Int)) rfl (.tmp 56) (.tmp 58) _ rfl w1.heap.size _ 1 8 intE encI_len encI_one u8 u8.ownBlock (alK S true k).length (ints (alK S true k)) rfl rfl ?_ _ 1 _ [(k : Int)] rfl ?_ ?_ ?_ ?_; (exact HO.out.alloc _); (exact sl_new encI_len rfl rfl rfl); omega; (simp only [World.size_alloc]; omega); (intro v' w5 hown5 hg5 hat5; have hb5 : Below w1.heap.size w1 w5 := (Below.grown (by (repeat first | with_reducible assumption | with_reducible exact Below.refl _ _ | (with_reducible refine Below.alloc ?_ ?side _; case side => (first | omega | (with_reducible exact Below.size (by assumption)) | (simp; done) | (simp; omega))) | (with_reducible refine Below.setCell ?_ ?side _; case side => (first | omega | (with_reducible exact Below.size (by assumption)) | (simp; done) | (simp; omega))) | with_reducible refine Below.drew ?_ | with_reducible refine below_drewN ?_ _ | (with_reducible refine below_step (by assumption) ?side ?_; case side => (first | omega | (with_reducible exact Below.size (by assumption)) | (simp; done) | (simp; omega))))) hg5 (by simp only [World.size_alloc]; omega) (own_ge HO.out)); have hown6 : Hid (w5.ownsRow w1.heap.size 3 1 v' (alK S true (k + 1)).length ((ints (alK S true (k + 1))).flatMap encI)) := (by rw [HY.out, List.length_append, ints, List.map_append]; exact hown5); clear hown5 hg5 hat5)))
                exact ⟨⟨k + 1, by omega, by go_num, hown6, hb5⟩, by simp [intOf]; omega⟩
      · obtain rfl : k = n := by omega
        have hknB : decide (((k : Nat) : Int) < k) = false := by simp
        obtain ⟨A8, c8, rfl, -, hsl⟩ := SlAt.of_own (d := (0 : Int)) encI_len HO.out (ints_len _)
        have HI := Lib.hid (ints_iff.2 hsl)
        clear hsl
        go_wp2_with fail
        exact bodyPost_ret (v := .tuple #[.slice A8 (alK S all k).length c8, .int .i64 0]) (by simp [results, Try.results61, go_sem]) rfl (by show LiRet (alK S all k) 0 w _ _; exact ⟨A8, c8, rfl, HI.out, by (repeat first | with_reducible assumption | with_reducible exact Below.refl _ _ | (with_reducible refine Below.alloc ?_ ?side _; case side => (first | omega | (with_reducible exact Below.size (by assumption)) | (simp; done) | (simp; omega))) | (with_reducible refine Below.setCell ?_ ?side _; case side => (first | omega | (with_reducible exact Below.size (by assumption)) | (simp; done) | (simp; omega))) | with_reducible refine Below.drew ?_ | with_reducible refine below_drewN ?_ _ | (with_reducible refine below_step (by assumption) ?side ?_; case side => (first | omega | (with_reducible exact Below.size (by assumption)) | (simp; done) | (simp; omega))))⟩)
set_option maxHeartbeats 400000 in
theorem refMust_c (A : Option Addr) (n c : Nat) (q : Cb) (ls : List Sp) (w : World) (hn : n ≤ 40) (HL : SpsAt w A n ls) :
    Calls Try.prog 38 #[.agg #[.slice A n c, .int .i64 q.need, .int .i64 q.gap, .int .i64 q.doubt, .int .i64 q.joins, .int .i64 q.least]] w (LiRet (muL n ls q) (erS n ls q) w) := by
  have hal : ∀ V, Below w.heap.size w V → Calls Try.prog 61 #[.agg #[.slice A n c, .int .i64 q.need, .int .i64 q.gap, .int .i64 q.doubt, .int .i64 q.joins, .int .i64 q.least], .bool true] V (LiRet (muL n ls q) (erS n ls q) V) := fun V hV => always_c A n c q true ls V hn (HL.later hV)
  replace hal := Lib.hid hal
  clear HL
  go_enter Try.func38, Try.ntmps38
  go_wp2_with fail
  refine (hal.out _ (by (repeat first | with_reducible assumption | with_reducible exact Below.refl _ _ | (with_reducible refine Below.alloc ?_ ?side _; case side => (first | omega | (with_reducible exact Below.size (by assumption)) | (simp; done) | (simp; omega))) | (with_reducible refine Below.setCell ?_ ?side _; case side => (first | omega | (with_reducible exact Below.size (by assumption)) | (simp; done) | (simp; omega))) | with_reducible refine Below.drew ?_ | with_reducible refine below_drewN ?_ _ | (with_reducible refine below_step (by assumption) ?side ?_; case side => (first | omega | (with_reducible exact Below.size (by assumption)) | (simp; done) | (simp; omega)))))).mono ?_
  rintro e w1 ⟨A1, c1, rfl, hI, hb1⟩
  have HI := Lib.hid hI
  clear hI
  go_wp2
  exact bodyPost_ret (v := .tuple #[.slice A1 (muL n ls q).length c1, .int .i64 (erS n ls q)]) (by simp [results, Try.results38, go_sem]) rfl (by show LiRet _ _ w _ _; exact ⟨A1, c1, rfl, HI.out, by (repeat first | with_reducible assumption | with_reducible exact Below.refl _ _ | (with_reducible refine Below.alloc ?_ ?side _; case side => (first | omega | (with_reducible exact Below.size (by assumption)) | (simp; done) | (simp; omega))) | (with_reducible refine Below.setCell ?_ ?side _; case side => (first | omega | (with_reducible exact Below.size (by assumption)) | (simp; done) | (simp; omega))) | with_reducible refine Below.drew ?_ | with_reducible refine below_drewN ?_ _ | (with_reducible refine below_step (by assumption) ?side ?_; case side => (first | omega | (with_reducible exact Below.size (by assumption)) | (simp; done) | (simp; omega))))⟩)
set_option maxHeartbeats 400000 in
theorem refSpared_c (A : Option Addr) (n c : Nat) (q : Cb) (ls : List Sp) (w : World) (hn : n ≤ 40) (HL : SpsAt w A n ls) :
    Calls Try.prog 40 #[.agg #[.slice A n c, .int .i64 q.need, .int .i64 q.gap, .int .i64 q.doubt, .int .i64 q.joins, .int .i64 q.least]] w (LiRet (spL n ls q) (erS n ls q) w) := by
  have hal : ∀ V, Below w.heap.size w V → Calls Try.prog 61 #[.agg #[.slice A n c, .int .i64 q.need, .int .i64 q.gap, .int .i64 q.doubt, .int .i64 q.joins, .int .i64 q.least], .bool false] V (LiRet (spL n ls q) (erS n ls q) V) := fun V hV => always_c A n c q false ls V hn (HL.later hV)
  replace hal := Lib.hid hal
  clear HL
  go_enter Try.func40, Try.ntmps40
  go_wp2_with fail
  refine (hal.out _ (by (repeat first | with_reducible assumption | with_reducible exact Below.refl _ _ | (with_reducible refine Below.alloc ?_ ?side _; case side => (first | omega | (with_reducible exact Below.size (by assumption)) | (simp; done) | (simp; omega))) | (with_reducible refine Below.setCell ?_ ?side _; case side => (first | omega | (with_reducible exact Below.size (by assumption)) | (simp; done) | (simp; omega))) | with_reducible refine Below.drew ?_ | with_reducible refine below_drewN ?_ _ | (with_reducible refine below_step (by assumption) ?side ?_; case side => (first | omega | (with_reducible exact Below.size (by assumption)) | (simp; done) | (simp; omega)))))).mono ?_
  rintro e w1 ⟨A1, c1, rfl, hI, hb1⟩
  have HI := Lib.hid hI
  clear hI
  go_wp2
  exact bodyPost_ret (v := .tuple #[.slice A1 (spL n ls q).length c1, .int .i64 (erS n ls q)]) (by simp [results, Try.results40, go_sem]) rfl (by show LiRet _ _ w _ _; exact ⟨A1, c1, rfl, HI.out, by (repeat first | with_reducible assumption | with_reducible exact Below.refl _ _ | (with_reducible refine Below.alloc ?_ ?side _; case side => (first | omega | (with_reducible exact Below.size (by assumption)) | (simp; done) | (simp; omega))) | (with_reducible refine Below.setCell ?_ ?side _; case side => (first | omega | (with_reducible exact Below.size (by assumption)) | (simp; done) | (simp; omega))) | with_reducible refine Below.drew ?_ | with_reducible refine below_drewN ?_ _ | (with_reducible refine below_step (by assumption) ?side ?_; case side => (first | omega | (with_reducible exact Below.size (by assumption)) | (simp; done) | (simp; omega))))⟩)

end Go.Proofs.Ythjjakhmbgnnnaa
