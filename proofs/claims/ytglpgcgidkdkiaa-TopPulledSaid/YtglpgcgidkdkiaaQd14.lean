/- shortest, Plan and Fewest of repairs (layer 7). -/
import Derived.Test.YtglpgcgidkdkiaaQd13
namespace Go.Proofs.Ytglpgcgidkdkiaa
open Go.RowKit
open Go.Sort (grow)
set_option linter.unusedVariables false
set_option linter.unusedSimpArgs false

def shK (q : Cb) (ls : List Sp) (n k : Nat) : List Nat := ((List.range k).filter (goodB q ls n)).foldl (shStep n) []
theorem shK_yes {q : Cb} {ls : List Sp} {n k : Nat} (h : goodB q ls n k = true) : shK q ls n (k + 1) = shStep n (shK q ls n k) k := by
  unfold shK; rw [List.range_succ, List.filter_append, List.foldl_append]; simp [h]
theorem shK_no {q : Cb} {ls : List Sp} {n k : Nat} (h : goodB q ls n k = false) : shK q ls n (k + 1) = shK q ls n k := by
  unfold shK; rw [List.range_succ, List.filter_append, List.foldl_append]; simp [h]
theorem shK_all (q : Cb) (ls : List Sp) (n : Nat) : shK q ls n (2 ^ n) = shL q ls n := rfl
theorem shStep_bd {n x k : Nat} {S : List Nat} (h : (∀ y ∈ S, y < k) ∧ S.length ≤ k) (hx : x < k + 1) : (∀ y ∈ shStep n S x, y < k + 1) ∧ (shStep n S x).length ≤ k + 1 := by
  unfold shStep
  cases S with
  | nil => simp; omega
  | cons y r =>
    simp only
    split
    · simp; omega
    · split
      · refine ⟨fun z hz => ?_, by have := h.2; simp at this ⊢; omega⟩
        rcases List.mem_append.1 hz with hz | hz
        · have := h.1 z hz; omega
        · obtain rfl : z = x := by simpa using hz
          exact hx
      · exact ⟨fun z hz => by have := h.1 z hz; omega, by have := h.2; omega⟩
theorem shK_bd (q : Cb) (ls : List Sp) (n k : Nat) : (∀ y ∈ shK q ls n k, y < k) ∧ (shK q ls n k).length ≤ k := by
  induction k with
  | zero => simp [shK]
  | succ k ih =>
    cases h : goodB q ls n k
    · rw [shK_no h]
      exact ⟨fun y hy => by have := ih.1 y hy; omega, by omega⟩
    · rw [shK_yes h]
      exact shStep_bd ih (by omega)
theorem ck_len {n : Nat} {ls : List Sp} {q : Cb} (h : ckC n ls q = true) : n ≤ 12 := by
  simp only [ckC, Bool.and_eq_true, Bool.not_eq_true', decide_eq_false_iff_not] at h
  have := h.1.1
  omega
/-- what shortest hands back -/
def ShRet (n : Nat) (ls : List Sp) (q : Cb) (e : Ending) (w' : World) : Prop :=
  bif ckC n ls q then (bif (shL q ls n).isEmpty then e = .returned (.tuple #[.slice none 0 0, .int .i64 3])
    else ∃ A c, e = .returned (.tuple #[.slice A (shL q ls n).length c, .int .i64 0]) ∧ UsAt w' A (shL q ls n).length (shL q ls n))
  else e = .returned (.tuple #[.slice none 0 0, .int .i64 70])
set_option maxRecDepth 100000 in
set_option maxHeartbeats 1600000 in
theorem shortest_c (A : Option Addr) (n c : Nat) (q : Cb) (ls : List Sp) (w : World) (hn : n ≤ 40) (hq : CbOk q) (HL : SpsAt w A n ls) :
    Calls Try.prog 45 #[.agg #[.slice A n c, .int .i64 q.need, .int .i64 q.gap, .int .i64 q.doubt, .int .i64 q.joins, .int .i64 q.least]] w fun e w' => ShRet n ls q e w' ∧ Below w.heap.size w w' := by
  have HLI := Lib.hid HL
  clear HL
  cases hck : ckC n ls q
  · have e0 : erC (ckC n ls q) = 70 := by rw [hck]; rfl
    have hr := Lib.hid (show ∀ e w', ShRet n ls q e w' = (e = .returned (.tuple #[.slice none 0 0, .int .i64 70])) by intro e w'; simp [ShRet, hck])
    clear hck
    go_enter Try.func45, Try.ntmps45
    go_wp2_with (go_at_call 62; refine (check_c_q7 A n c q ls _ hn hq (HLI.out.later (by (repeat first | with_reducible assumption | with_reducible exact Below.refl _ _ | (with_reducible refine Below.alloc ?_ ?side _; case side => (first | omega | (with_reducible exact Below.size (by assumption)) | (simp; done) | (simp; omega))) | (with_reducible refine Below.setCell ?_ ?side _; case side => (first | omega | (with_reducible exact Below.size (by assumption)) | (simp; done) | (simp; omega))) | with_reducible refine Below.drew ?_ | with_reducible refine below_drewN ?_ _ | (with_reducible refine below_step (by assumption) ?side ?_; case side => (first | omega | (with_reducible exact Below.size (by assumption)) | (simp; done) | (simp; omega))))))).mono ?_; rw [e0]; (rintro e w1 ⟨rfl, hb1⟩; obtain ⟨hc1, hf1⟩ := bcell hb1; have zs1 := hb1.size; (try simp at zs1); have n1_0 : w.heap.size < w1.heap.size := (by omega)))
    exact bodyPost_ret (v := .tuple #[.slice none 0 0, .int .i64 70]) (by simp [results, Try.results45, go_sem]) rfl ⟨by rw [hr.out], by (repeat first | with_reducible assumption | with_reducible exact Below.refl _ _ | (with_reducible refine Below.alloc ?_ ?side _; case side => (first | omega | (with_reducible exact Below.size (by assumption)) | (simp; done) | (simp; omega))) | (with_reducible refine Below.setCell ?_ ?side _; case side => (first | omega | (with_reducible exact Below.size (by assumption)) | (simp; done) | (simp; omega))) | with_reducible refine Below.drew ?_ | with_reducible refine below_drewN ?_ _ | (with_reducible refine below_step (by assumption) ?side ?_; case side => (first | omega | (with_reducible exact Below.size (by assumption)) | (simp; done) | (simp; omega))))⟩
  have e0 : erC (ckC n ls q) = 0 := by rw [hck]; rfl
  have hn12 := ck_len hck
  have hr := Lib.hid (show ∀ e w', ShRet n ls q e w' = (bif (shL q ls n).isEmpty then e = .returned (.tuple #[.slice none 0 0, .int .i64 3])
    else ∃ A c, e = .returned (.tuple #[.slice A (shL q ls n).length c, .int .i64 0]) ∧ UsAt w' A (shL q ls n).length (shL q ls n)) by intro e w'; unfold ShRet; rw [hck]; rfl)
  have hp12 : (2 : Nat) ^ n ≤ 4096 := by
    have : 2 ^ n ≤ 2 ^ 12 := Nat.pow_le_pow_right (by omega) hn12
    omega
  have HP12 := Lib.hid hp12
  clear hck hp12
  go_enter Try.func45, Try.ntmps45
  go_wp2_with (go_at_call 62; refine (check_c_q7 A n c q ls _ hn hq (HLI.out.later (by (repeat first | with_reducible assumption | with_reducible exact Below.refl _ _ | (with_reducible refine Below.alloc ?_ ?side _; case side => (first | omega | (with_reducible exact Below.size (by assumption)) | (simp; done) | (simp; omega))) | (with_reducible refine Below.setCell ?_ ?side _; case side => (first | omega | (with_reducible exact Below.size (by assumption)) | (simp; done) | (simp; omega))) | with_reducible refine Below.drew ?_ | with_reducible refine below_drewN ?_ _ | (with_reducible refine below_step (by assumption) ?side ?_; case side => (first | omega | (with_reducible exact Below.size (by assumption)) | (simp; done) | (simp; omega))))))).mono ?_; rw [e0]; (rintro e w1 ⟨rfl, hb1⟩; obtain ⟨hc1, hf1⟩ := bcell hb1; have zs1 := hb1.size; (try simp at zs1); have n1_0 : w.heap.size < w1.heap.size := (by omega)))
  have D0 : Hid (Blk w1 w.heap.size 48 #[.slice A n c, .int .i64 q.need, .int .i64 q.gap, .int .i64 q.doubt, .int .i64 q.joins, .int .i64 q.least]) := (Blk.new w _ _).below hb1 (by simp)
  have d0 := D0.out.cell
  have B1 : Below w.heap.size w w1 := by (repeat first | with_reducible assumption | with_reducible exact Below.refl _ _ | (with_reducible refine Below.alloc ?_ ?side _; case side => (first | omega | (with_reducible exact Below.size (by assumption)) | (simp; done) | (simp; omega))) | (with_reducible refine Below.setCell ?_ ?side _; case side => (first | omega | (with_reducible exact Below.size (by assumption)) | (simp; done) | (simp; omega))) | with_reducible refine Below.drew ?_ | with_reducible refine below_drewN ?_ _ | (with_reducible refine below_step (by assumption) ?side ?_; case side => (first | omega | (with_reducible exact Below.size (by assumption)) | (simp; done) | (simp; omega))))
  have z1 := B1.size
  clear hc1 hf1 hb1 e0
  go_wp2_with fail
  have en : ∀ args w, (callFunc 70 args).run Try.prog w = .ok (.enter 70 args) w := enters_of Try.func70 (by kernel_rfl) rfl
  obtain ⟨X, hX⟩ : ∃ X, (w1.alloc (.cells #[.func (.func 68) #[] #[.pointer (some ⟨w.heap.size, 0, none⟩)]] 137)).alloc (.cells #[.slice none 0 0] 113) = X := ⟨_, rfl⟩
  rw [hX]
  have hBX : Below w1.heap.size w1 X := (al2 hX).1
  have zX : X.heap.size = w1.heap.size + 2 := (al2 hX).2
  have M0 := (al2_0 hX).2.1
  have O0 : Blk X (w1.heap.size + 1) 113 #[.slice none 0 0] := by
    have h := Blk.new (w1.alloc (.cells #[.func (.func 68) #[] #[.pointer (some ⟨w.heap.size, 0, none⟩)]] 137)) 113 #[.slice none 0 0]
    rw [World.size_alloc, hX] at h
    exact h
  have D1 := D0.out.below hBX (by have := D0.out.lt; omega)
  have BX : Below w.heap.size w X := B1.trans (hBX.mono z1)
  have n0 := D0.out.lt
  refine (good_c A n c 70 #[] #[.pointer (some ⟨w1.heap.size + 1, 0, none⟩), .pointer (some ⟨w1.heap.size, 0, none⟩)] q ls X hn12
    (fun k W => ∃ v, ShM (w1.heap.size + 1) w1.heap.size w.heap.size (X.heap.size + 1) A n c (shK q ls n k) v W ∧ Blk W X.heap.size 48 #[.slice A n c, .int .i64 q.need, .int .i64 q.gap, .int .i64 q.doubt, .int .i64 q.joins, .int .i64 q.least] ∧ Below w.heap.size w W)
    ?h0 ?hmem ?hlater ?hskip en ?hyield).mono ?_
  case h0 =>
    have f := (Below.refl X.heap.size X).alloc (Nat.le_refl _) (.cells #[.slice A n c, .int .i64 q.need, .int .i64 q.gap, .int .i64 q.doubt, .int .i64 q.joins, .int .i64 q.least] 48)
    refine ⟨.slice none 0 0, ⟨O0.alloc _, (f.cell (p := ⟨w1.heap.size, 0, none⟩) (by simp; omega)).trans (M0 0), ((D1.alloc _).cell 0), World.ownsRow_nil _ _ _ _, ⟨by omega, by omega, by omega⟩, ⟨by omega, by omega⟩⟩, Blk.new _ _ _, BX.alloc BX.size _⟩
  case hmem => rintro k W ⟨v, h1, h2, h3⟩; exact ⟨HLI.out.later h3, h2⟩
  case hlater => rintro k W W' ⟨v, h1, h2, h3⟩ hb; exact ⟨v, h1.below hb, h2.below hb h2.lt, h3.trans (hb.mono h3.size)⟩
  case hskip => rintro k W hk hg ⟨v, h1, h2, h3⟩; exact ⟨v, by rw [shK_no hg]; exact h1, h2, h3⟩
  case hyield =>
    rintro k W hk hg ⟨v, h1, h2, h3⟩
    have hb := shK_bd q ls n k
    have hp := HP12.out
    have l2 := h2.lt
    have := shortest2_c (w1.heap.size + 1) w1.heap.size w.heap.size (X.heap.size + 1) k n c A (shK q ls n k) v W (by omega) (fun y hy => by have := hb.1 y hy; omega) (by omega) hn h1 (by omega)
    refine Calls.mono ?_ (fun e W' (h : e = .returned (.bool true) ∧ (∃ v', ShM (w1.heap.size + 1) w1.heap.size w.heap.size (X.heap.size + 1) A n c (shStep n (shK q ls n k) k) v' W') ∧ Fr (w1.heap.size + 1) (X.heap.size + 1) W W') => ?_)
    · simpa using this
    · obtain ⟨rfl, ⟨v', h4⟩, h5⟩ := h
      exact ⟨rfl, v', by rw [shK_yes hg]; exact h4, h5.blk h2 (by omega) (by omega), h5.below h3 (by omega) (by omega) h3.size⟩
  rintro e w3 ⟨rfl, v, h1, -, h3⟩
  rw [shK_all] at h1
  obtain ⟨B, cb, rfl, hcb, hsl⟩ := SlAt.of_own (d := 0) encU_len h1.own rfl
  have o0 := h1.o.cell
  have ol := h1.o.lt
  have HSL := Lib.hid hsl
  have B3 := Lib.hid h3
  obtain ⟨m, hm⟩ : ∃ m, (shL q ls n).length = m := ⟨_, rfl⟩
  cases he : (shL q ls n).isEmpty
  · have hm0 : ((m : Int) == 0) = false := by
      have : m ≠ 0 := fun e => by
        rw [e] at hm
        rw [List.eq_nil_of_length_eq_zero hm] at he
        cases he
      simp; omega
    rw [he] at hr
    rw [hm] at hr o0 HSL
    clear hsl h1 h3 hm he hX hBX M0 O0 D1 BX D0 B1 d0 en
    go_wp2_with fail
    refine bodyPost_ret (v := .tuple #[.slice B m cb, .int .i64 0]) (by simp [results, Try.results45, go_sem]) rfl ⟨?_, B3.out⟩
    rw [hr.out]
    exact ⟨B, cb, rfl, HSL.out⟩
  · have hm0 : m = 0 := by
      rw [← hm, List.isEmpty_iff.1 he]; rfl
    subst hm0
    rw [he] at hr
    rw [hm] at o0
    clear hsl h1 h3 hm he hX hBX M0 O0 D1 BX D0 B1 d0 en HSL
    go_wp2_with fail
    refine bodyPost_ret (v := .tuple #[.slice none 0 0, .int .i64 3]) (by simp [results, Try.results45, go_sem]) rfl ⟨?_, B3.out⟩
    rw [hr.out]
    rfl
/-- the error of a cable that is asked for a shortest repair -/
def erS_q7 (n : Nat) (ls : List Sp) (q : Cb) : Int := bif ckC n ls q then (bif (shL q ls n).isEmpty then 3 else 0) else 70
def plC (n : Nat) (ls : List Sp) (q : Cb) : List Nat := bif ckC n ls q then (match shL q ls n with | [] => [] | y :: _ => memN y n) else []
theorem sh_cases (n : Nat) (ls : List Sp) (q : Cb) : (∃ z : Int, z ≠ 0 ∧ erS_q7 n ls q = z ∧ plC n ls q = [] ∧ ∀ e w', ShRet n ls q e w' = (e = .returned (.tuple #[.slice none 0 0, .int .i64 z]))) ∨
    (ckC n ls q = true ∧ erS_q7 n ls q = 0 ∧ ∃ y r, shL q ls n = y :: r ∧ plC n ls q = memN y n ∧ y < 2 ^ n ∧ ∀ e w', ShRet n ls q e w' = (∃ A c, e = .returned (.tuple #[.slice A (shL q ls n).length c, .int .i64 0]) ∧ UsAt w' A (shL q ls n).length (shL q ls n))) := by
  cases h : ckC n ls q
  · exact .inl ⟨70, by omega, by simp [erS_q7, h], by simp [plC, h], fun e w' => by simp [ShRet, h]⟩
  · cases h2 : shL q ls n with
    | nil => exact .inl ⟨3, by omega, by simp [erS_q7, h, h2], by simp [plC, h, h2], fun e w' => by simp [ShRet, h, h2]⟩
    | cons y r =>
      refine .inr ⟨rfl, by simp [erS_q7, h, h2], y, r, rfl, by simp [plC, h, h2], (shL_mem (q := q) (ls := ls) (x := y) (by rw [h2]; simp)).1.1, fun e w' => ?_⟩
      unfold ShRet
      rw [h, h2]; rfl

end Go.Proofs.Ytglpgcgidkdkiaa
