/- shortest, Plan and Fewest of repairs (layer 7); Plan, Fewest, Must and Spared of repairs (layer 7); Must and Spared of repairs (layer 7); Spared of repairs (layer 7); Cheapest of repairs (layer 7): its closure; Cheapest of repairs (layer 7). -/
import Derived.Test.YtcbeiadimchknaaGreatQp27
namespace Go.Proofs.YtcbeiadimchknaaGreat
open Go.RowKit
open Go.Sort (grow)
set_option linter.unusedVariables false
set_option linter.unusedSimpArgs false

def shK (q : Cb) (ls : List Sp) (n k : Nat) : List Nat := ((List.range k).filter (goodB q ls n)).foldl (shStep n) []
theorem shK_yes {q : Cb} {ls : List Sp} {n k : Nat} (h : goodB q ls n k = true) : shK q ls n (k + 1) = shStep n (shK q ls n k) k := by
  unfold shK; rw [List.range_succ, List.filter_append, List.foldl_append]; simp [h]
theorem shK_no {q : Cb} {ls : List Sp} {n k : Nat} (h : goodB q ls n k = false) : shK q ls n (k + 1) = shK q ls n k := by
  unfold shK; rw [List.range_succ, List.filter_append, List.foldl_append]; simp [h]
theorem shK_all (q : Cb) (ls : List Sp) (n : Nat) : shK q ls n (2 ^ n) = shL q ls n := rfl
theorem shStep_bd {n x k : Nat} {S : List Nat} (h : (∀ y ∈ S, y < k) ∧ S.length ≤ k) (hx : x < k + 1) : (∀ y ∈ shStep n S x, y < k + 1) ∧ (shStep n S x).length ≤ k + 1 := by
  unfold shStep
  cases S with
  | nil => simp; omega
  | cons y r =>
    simp only
    split
    · simp; omega
    · split
      · refine ⟨fun z hz => ?_, by have := h.2; simp at this ⊢; omega⟩
        rcases List.mem_append.1 hz with hz | hz
        · have := h.1 z hz; omega
        · obtain rfl : z = x := by simpa using hz
          exact hx
      · exact ⟨fun z hz => by have := h.1 z hz; omega, by have := h.2; omega⟩
theorem shK_bd (q : Cb) (ls : List Sp) (n k : Nat) : (∀ y ∈ shK q ls n k, y < k) ∧ (shK q ls n k).length ≤ k := by
  induction k with
  | zero => simp [shK]
  | succ k ih =>
    cases h : goodB q ls n k
    · rw [shK_no h]
      exact ⟨fun y hy => by have := ih.1 y hy; omega, by omega⟩
    · rw [shK_yes h]
      exact shStep_bd ih (by omega)
theorem ck_len {n : Nat} {ls : List Sp} {q : Cb} (h : ckC n ls q = true) : n ≤ 12 := by
  simp only [ckC, Bool.and_eq_true, Bool.not_eq_true', decide_eq_false_iff_not] at h
  have := h.1.1
  omega
/-- what shortest hands back -/
def ShRet (n : Nat) (ls : List Sp) (q : Cb) (e : Ending) (w' : World) : Prop :=
  bif ckC n ls q then (bif (shL q ls n).isEmpty then e = .returned (.tuple #[.slice none 0 0, .int .i64 3])
    else ∃ A c, e = .returned (.tuple #[.slice A (shL q ls n).length c, .int .i64 0]) ∧ UsAt w' A (shL q ls n).length (shL q ls n))
  else e = .returned (.tuple #[.slice none 0 0, .int .i64 70])
set_option maxRecDepth 100000 in
set_option maxHeartbeats 1600000 in
theorem shortest_c (A : Option Addr) (n c : Nat) (q : Cb) (ls : List Sp) (w : World) (hn : n ≤ 40) (hq : CbOk q) (HL : SpsAt w A n ls) :
    Calls Tryz.prog 26 #[.agg #[.slice A n c, .int .i64 q.need, .int .i64 q.gap, .int .i64 q.doubt, .int .i64 q.joins, .int .i64 q.least]] w fun e w' => ShRet n ls q e w' ∧ Below w.heap.size w w' := by
  have HLI := Lib.hid HL
  clear HL
  cases hck : ckC n ls q
  · have e0 : erC (ckC n ls q) = 70 := by rw [hck]; rfl
    have hr := Lib.hid (show ∀ e w', ShRet n ls q e w' = (e = .returned (.tuple #[.slice none 0 0, .int .i64 70])) by intro e w'; simp [ShRet, hck])
    clear hck
    go_enter Tryz.func26, Tryz.ntmps26
    go_wp2_with (go_at_call 52; refine (check_c_q7 A n c q ls _ hn hq (HLI.out.later (by (repeat first | with_reducible assumption | with_reducible exact Below.refl _ _ | (with_reducible refine Below.alloc ?_ ?side _; case side => (first | omega | (with_reducible exact Below.size (by assumption)) | (simp; done) | (simp; omega))) | (with_reducible refine Below.setCell ?_ ?side _; case side => (first | omega | (with_reducible exact Below.size (by assumption)) | (simp; done) | (simp; omega))) | with_reducible refine Below.drew ?_ | with_reducible refine below_drewN ?_ _ | (with_reducible refine below_step (by assumption) ?side ?_; case side => (first | omega | (with_reducible exact Below.size (by assumption)) | (simp; done) | (simp; omega))))))).mono ?_; rw [e0]; (rintro e w1 ⟨rfl, hb1⟩; obtain ⟨hc1, hf1⟩ := bcell hb1; have zs1 := hb1.size; (try simp at zs1); have n1_0 : w.heap.size < w1.heap.size := (by omega)))
    exact bodyPost_ret (v := .tuple #[.slice none 0 0, .int .i64 70]) (by simp [results, Tryz.results26, go_sem]) rfl ⟨by rw [hr.out], by (repeat first | with_reducible assumption | with_reducible exact Below.refl _ _ | (with_reducible refine Below.alloc ?_ ?side _; case side => (first | omega | (with_reducible exact Below.size (by assumption)) | (simp; done) | (simp; omega))) | (with_reducible refine Below.setCell ?_ ?side _; case side => (first | omega | (with_reducible exact Below.size (by assumption)) | (simp; done) | (simp; omega))) | with_reducible refine Below.drew ?_ | with_reducible refine below_drewN ?_ _ | (with_reducible refine below_step (by assumption) ?side ?_; case side => (first | omega | (with_reducible exact Below.size (by assumption)) | (simp; done) | (simp; omega))))⟩
  have e0 : erC (ckC n ls q) = 0 := by rw [hck]; rfl
  have hn12 := ck_len hck
  have hr := Lib.hid (show ∀ e w', ShRet n ls q e w' = (bif (shL q ls n).isEmpty then e = .returned (.tuple #[.slice none 0 0, .int .i64 3])
    else ∃ A c, e = .returned (.tuple #[.slice A (shL q ls n).length c, .int .i64 0]) ∧ UsAt w' A (shL q ls n).length (shL q ls n)) by intro e w'; unfold ShRet; rw [hck]; rfl)
  have hp12 : (2 : Nat) ^ n ≤ 4096 := by
    have : 2 ^ n ≤ 2 ^ 12 := Nat.pow_le_pow_right (by omega) hn12
    omega
  have HP12 := Lib.hid hp12
  clear hck hp12
  go_enter Tryz.func26, Tryz.ntmps26
  go_wp2_with (go_at_call 52; refine (check_c_q7 A n c q ls _ hn hq (HLI.out.later (by (repeat first | with_reducible assumption | with_reducible exact Below.refl _ _ | (with_reducible refine Below.alloc ?_ ?side _; case side => (first | omega | (with_reducible exact Below.size (by assumption)) | (simp; done) | (simp; omega))) | (with_reducible refine Below.setCell ?_ ?side _; case side => (first | omega | (with_reducible exact Below.size (by assumption)) | (simp; done) | (simp; omega))) | with_reducible refine Below.drew ?_ | with_reducible refine below_drewN ?_ _ | (with_reducible refine below_step (by assumption) ?side ?_; case side => (first | omega | (with_reducible exact Below.size (by assumption)) | (simp; done) | (simp; omega))))))).mono ?_; rw [e0]; (rintro e w1 ⟨rfl, hb1⟩; obtain ⟨hc1, hf1⟩ := bcell hb1; have zs1 := hb1.size; (try simp at zs1); have n1_0 : w.heap.size < w1.heap.size := (by omega)))
  have D0 : Hid (Blk w1 w.heap.size 24 #[.slice A n c, .int .i64 q.need, .int .i64 q.gap, .int .i64 q.doubt, .int .i64 q.joins, .int .i64 q.least]) := (Blk.new w _ _).below hb1 (by simp)
  have d0 := D0.out.cell
  have B1 : Below w.heap.size w w1 := by (repeat first | with_reducible assumption | with_reducible exact Below.refl _ _ | (with_reducible refine Below.alloc ?_ ?side _; case side => (first | omega | (with_reducible exact Below.size (by assumption)) | (simp; done) | (simp; omega))) | (with_reducible refine Below.setCell ?_ ?side _; case side => (first | omega | (with_reducible exact Below.size (by assumption)) | (simp; done) | (simp; omega))) | with_reducible refine Below.drew ?_ | with_reducible refine below_drewN ?_ _ | (with_reducible refine below_step (by assumption) ?side ?_; case side => (first | omega | (with_reducible exact Below.size (by assumption)) | (simp; done) | (simp; omega))))
  have z1 := B1.size
  clear hc1 hf1 hb1 e0
  go_wp2_with fail
  have en : ∀ args w, (callFunc 55 args).run Tryz.prog w = .ok (.enter 55 args) w := enters_of Tryz.func55 (by kernel_rfl) rfl
  obtain ⟨X, hX⟩ : ∃ X, (w1.alloc (.cells #[.func (.func 53) #[] #[.pointer (some ⟨w.heap.size, 0, none⟩)]] 110)).alloc (.cells #[.slice none 0 0] 65) = X := ⟨_, rfl⟩
  rw [hX]
  have hBX : Below w1.heap.size w1 X := (al2 hX).1
  have zX : X.heap.size = w1.heap.size + 2 := (al2 hX).2
  have M0 := (al2_0 hX).2.1
  have O0 : Blk X (w1.heap.size + 1) 65 #[.slice none 0 0] := by
    have h := Blk.new (w1.alloc (.cells #[.func (.func 53) #[] #[.pointer (some ⟨w.heap.size, 0, none⟩)]] 110)) 65 #[.slice none 0 0]
    rw [World.size_alloc, hX] at h
    exact h
  have D1 := D0.out.below hBX (by have := D0.out.lt; omega)
  have BX : Below w.heap.size w X := B1.trans (hBX.mono z1)
  have n0 := D0.out.lt
  refine (good_c A n c 55 #[] #[.pointer (some ⟨w1.heap.size + 1, 0, none⟩), .pointer (some ⟨w1.heap.size, 0, none⟩)] q ls X hn12
    (fun k W => ∃ v, ShM (w1.heap.size + 1) w1.heap.size w.heap.size (X.heap.size + 1) A n c (shK q ls n k) v W ∧ Blk W X.heap.size 24 #[.slice A n c, .int .i64 q.need, .int .i64 q.gap, .int .i64 q.doubt, .int .i64 q.joins, .int .i64 q.least] ∧ Below w.heap.size w W)
    ?h0 ?hmem ?hlater ?hskip en ?hyield).mono ?_
  case h0 =>
    have f := (Below.refl X.heap.size X).alloc (Nat.le_refl _) (.cells #[.slice A n c, .int .i64 q.need, .int .i64 q.gap, .int .i64 q.doubt, .int .i64 q.joins, .int .i64 q.least] 24)
    refine ⟨.slice none 0 0, ⟨O0.alloc _, (f.cell (p := ⟨w1.heap.size, 0, none⟩) (by simp; omega)).trans (M0 0), ((D1.alloc _).cell 0), World.ownsRow_nil _ _ _ _, ⟨by omega, by omega, by omega⟩, ⟨by omega, by omega⟩⟩, Blk.new _ _ _, BX.alloc BX.size _⟩
  case hmem => rintro k W ⟨v, h1, h2, h3⟩; exact ⟨HLI.out.later h3, h2⟩
  case hlater => rintro k W W' ⟨v, h1, h2, h3⟩ hb; exact ⟨v, h1.below hb, h2.below hb h2.lt, h3.trans (hb.mono h3.size)⟩
  case hskip => rintro k W hk hg ⟨v, h1, h2, h3⟩; exact ⟨v, by rw [shK_no hg]; exact h1, h2, h3⟩
  case hyield =>
    rintro k W hk hg ⟨v, h1, h2, h3⟩
    have hb := shK_bd q ls n k
    have hp := HP12.out
    have l2 := h2.lt
    have := shortest2_c (w1.heap.size + 1) w1.heap.size w.heap.size (X.heap.size + 1) k n c A (shK q ls n k) v W (by omega) (fun y hy => by have := hb.1 y hy; omega) (by omega) hn h1 (by omega)
    refine Calls.mono ?_ (fun e W' (h : e = .returned (.bool true) ∧ (∃ v', ShM (w1.heap.size + 1) w1.heap.size w.heap.size (X.heap.size + 1) A n c (shStep n (shK q ls n k) k) v' W') ∧ Fr (w1.heap.size + 1) (X.heap.size + 1) W W') => ?_)
    · simpa using this
    · obtain ⟨rfl, ⟨v', h4⟩, h5⟩ := h
      exact ⟨rfl, v', by rw [shK_yes hg]; exact h4, h5.blk h2 (by omega) (by omega), h5.below h3 (by omega) (by omega) h3.size⟩
  rintro e w3 ⟨rfl, v, h1, -, h3⟩
  rw [shK_all] at h1
  obtain ⟨B, cb, rfl, hcb, hsl⟩ := SlAt.of_own (d := 0) encU_len h1.own rfl
  have o0 := h1.o.cell
  have ol := h1.o.lt
  have HSL := Lib.hid hsl
  have B3 := Lib.hid h3
  obtain ⟨m, hm⟩ : ∃ m, (shL q ls n).length = m := ⟨_, rfl⟩
  cases he : (shL q ls n).isEmpty
  · have hm0 : ((m : Int) == 0) = false := by
      have : m ≠ 0 := fun e => by
        rw [e] at hm
        rw [List.eq_nil_of_length_eq_zero hm] at he
        cases he
      simp; omega
    rw [he] at hr
    rw [hm] at hr o0 HSL
    clear hsl h1 h3 hm he hX hBX M0 O0 D1 BX D0 B1 d0 en
    go_wp2_with fail
    refine bodyPost_ret (v := .tuple #[.slice B m cb, .int .i64 0]) (by simp [results, Tryz.results26, go_sem]) rfl ⟨?_, B3.out⟩
    rw [hr.out]
    exact ⟨B, cb, rfl, HSL.out⟩
  · have hm0 : m = 0 := by
      rw [← hm, List.isEmpty_iff.1 he]; rfl
    subst hm0
    rw [he] at hr
    rw [hm] at o0
    clear hsl h1 h3 hm he hX hBX M0 O0 D1 BX D0 B1 d0 en HSL
    go_wp2_with fail
    refine bodyPost_ret (v := .tuple #[.slice none 0 0, .int .i64 3]) (by simp [results, Tryz.results26, go_sem]) rfl ⟨?_, B3.out⟩
    rw [hr.out]
    rfl
/-- the error of a cable that is asked for a shortest repair -/
def erS_q7 (n : Nat) (ls : List Sp) (q : Cb) : Int := bif ckC n ls q then (bif (shL q ls n).isEmpty then 3 else 0) else 70
def plC (n : Nat) (ls : List Sp) (q : Cb) : List Nat := bif ckC n ls q then (match shL q ls n with | [] => [] | y :: _ => memN y n) else []
theorem sh_cases (n : Nat) (ls : List Sp) (q : Cb) : (∃ z : Int, z ≠ 0 ∧ erS_q7 n ls q = z ∧ plC n ls q = [] ∧ ∀ e w', ShRet n ls q e w' = (e = .returned (.tuple #[.slice none 0 0, .int .i64 z]))) ∨
    (ckC n ls q = true ∧ erS_q7 n ls q = 0 ∧ ∃ y r, shL q ls n = y :: r ∧ plC n ls q = memN y n ∧ y < 2 ^ n ∧ ∀ e w', ShRet n ls q e w' = (∃ A c, e = .returned (.tuple #[.slice A (shL q ls n).length c, .int .i64 0]) ∧ UsAt w' A (shL q ls n).length (shL q ls n))) := by
  cases h : ckC n ls q
  · exact .inl ⟨70, by omega, by simp [erS_q7, h], by simp [plC, h], fun e w' => by simp [ShRet, h]⟩
  · cases h2 : shL q ls n with
    | nil => exact .inl ⟨3, by omega, by simp [erS_q7, h, h2], by simp [plC, h, h2], fun e w' => by simp [ShRet, h, h2]⟩
    | cons y r =>
      refine .inr ⟨rfl, by simp [erS_q7, h, h2], y, r, rfl, by simp [plC, h, h2], (shL_mem (q := q) (ls := ls) (x := y) (by rw [h2]; simp)).1.1, fun e w' => ?_⟩
      unfold ShRet
      rw [h, h2]; rfl

end Go.Proofs.YtcbeiadimchknaaGreat

namespace Go.Proofs.YtcbeiadimchknaaGreat
open Go.RowKit
open Go.Sort (grow)
set_option linter.unusedVariables false
set_option linter.unusedSimpArgs false

theorem UsAt.get {w : World} {A : Option Addr} {n : Nat} {xs : List Nat} (h : UsAt w A n xs) {k : Nat} (hk : k < n) : ∃ b off, A = some ⟨b, off, none⟩ ∧ b < w.heap.size ∧ w.cell? ⟨b, off + k, none⟩ = some (.int .u64 ((xs.getD k 0 : Nat) : Int)) := by
  obtain ⟨b, off, e, hb, hc⟩ := h.2 (by omega)
  exact ⟨b, off, e, hb, by simpa using hc k hk 0 _ rfl⟩
theorem UsAt.later {w w' : World} {A : Option Addr} {n : Nat} {xs : List Nat} (h : UsAt w A n xs) (hb : Below w.heap.size w w') : UsAt w' A n xs := ⟨h.1, h.2.later hb⟩
theorem ints_none (w : World) : IntsAt w none 0 (ints []) := ⟨rfl, fun h => absurd h (by omega)⟩
theorem keep2 {wr w' : World} {p0 p1 : Addr} {v0 v1 : Value} (hb : Below wr.heap.size wr w') (h0 : wr.cell? p0 = some v0) (h1 : wr.cell? p1 = some v1)
    (l0 : p0.block < wr.heap.size) (l1 : p1.block < wr.heap.size) : w'.cell? p0 = some v0 ∧ w'.cell? p1 = some v1 :=
  ⟨(hb.cell l0).trans h0, (hb.cell l1).trans h1⟩
/-- what is handed back: a list of links, an error -/
def LiRet (L : List Nat) (z : Int) (w : World) (e : Ending) (w' : World) : Prop :=
  ∃ A c, e = .returned (.tuple #[.slice A L.length c, .int .i64 z]) ∧ IntsAt w' A L.length (ints L) ∧ Below w.heap.size w w'
set_option maxRecDepth 100000 in
set_option maxHeartbeats 1600000 in
theorem Plan_c (A : Option Addr) (n c : Nat) (q : Cb) (ls : List Sp) (w : World) (hn : n ≤ 40) (hq : CbOk q) (HL : SpsAt w A n ls) :
    Calls Tryz.prog 8 #[.agg #[.slice A n c, .int .i64 q.need, .int .i64 q.gap, .int .i64 q.doubt, .int .i64 q.joins, .int .i64 q.least]] w (LiRet (plC n ls q) (erS_q7 n ls q) w) := by
  have HLI := Lib.hid HL
  clear HL
  rcases sh_cases n ls q with ⟨z, hz, e1, e2, hr⟩ | ⟨hck, e1, y, r, hL, e2, hy, hr⟩
  · rw [e1, e2]
    have HR := Lib.hid hr
    have hzB : (z != 0) = true := by simpa using hz
    clear hr e1 e2
    go_enter Tryz.func8, Tryz.ntmps8
    go_wp2_with fail
    refine (shortest_c A n c q ls _ hn hq (HLI.out.later (by (repeat first | with_reducible assumption | with_reducible exact Below.refl _ _ | (with_reducible refine Below.alloc ?_ ?side _; case side => (first | omega | (with_reducible exact Below.size (by assumption)) | (simp; done) | (simp; omega))) | (with_reducible refine Below.setCell ?_ ?side _; case side => (first | omega | (with_reducible exact Below.size (by assumption)) | (simp; done) | (simp; omega))) | with_reducible refine Below.drew ?_ | with_reducible refine below_drewN ?_ _ | (with_reducible refine below_step (by assumption) ?side ?_; case side => (first | omega | (with_reducible exact Below.size (by assumption)) | (simp; done) | (simp; omega))))))).mono ?_
    rintro e w1 ⟨h, hb1⟩
    rw [HR.out] at h
    subst h
    go_wp2_with fail
    exact bodyPost_ret (v := .tuple #[.slice none 0 0, .int .i64 z]) (by simp [results, Tryz.results8, go_sem]) rfl ⟨none, 0, rfl, ints_none _, by (repeat first | with_reducible assumption | with_reducible exact Below.refl _ _ | (with_reducible refine Below.alloc ?_ ?side _; case side => (first | omega | (with_reducible exact Below.size (by assumption)) | (simp; done) | (simp; omega))) | (with_reducible refine Below.setCell ?_ ?side _; case side => (first | omega | (with_reducible exact Below.size (by assumption)) | (simp; done) | (simp; omega))) | with_reducible refine Below.drew ?_ | with_reducible refine below_drewN ?_ _ | (with_reducible refine below_step (by assumption) ?side ?_; case side => (first | omega | (with_reducible exact Below.size (by assumption)) | (simp; done) | (simp; omega))))⟩
  · rw [e1, e2]
    have HR := Lib.hid hr
    have hn12 := ck_len hck
    have hp12 : (2 : Nat) ^ n ≤ 4096 := by
      have : 2 ^ n ≤ 2 ^ 12 := Nat.pow_le_pow_right (by omega) hn12
      omega
    obtain ⟨m, hm⟩ : ∃ m, (shL q ls n).length = m := ⟨_, rfl⟩
    have hm0 : 0 < m := by rw [← hm, hL]; simp
    have hy0 : (shL q ls n).getD 0 0 = y := by rw [hL]; rfl
    rw [hm] at HR
    have hlc : ∀ W, Calls Tryz.prog 27 #[.int .u64 y, .int .i64 n, .bool true] W fun e W' => ∃ A c, e = .returned (.slice A (memN y n).length c) ∧ IntsAt W' A (memN y n).length (ints (memN y n)) ∧ Below W.heap.size W W' := fun W => by
      have := list_c y n true W (by omega) hn
      rwa [selN_true] at this
    replace hlc := Lib.hid hlc
    have HY0 := Lib.hid hy0
    clear hr e1 e2 hck hp12 hm hL hy hy0
    go_enter Tryz.func8, Tryz.ntmps8
    go_wp2_with fail
    refine (shortest_c A n c q ls _ hn hq (HLI.out.later (by (repeat first | with_reducible assumption | with_reducible exact Below.refl _ _ | (with_reducible refine Below.alloc ?_ ?side _; case side => (first | omega | (with_reducible exact Below.size (by assumption)) | (simp; done) | (simp; omega))) | (with_reducible refine Below.setCell ?_ ?side _; case side => (first | omega | (with_reducible exact Below.size (by assumption)) | (simp; done) | (simp; omega))) | with_reducible refine Below.drew ?_ | with_reducible refine below_drewN ?_ _ | (with_reducible refine below_step (by assumption) ?side ?_; case side => (first | omega | (with_reducible exact Below.size (by assumption)) | (simp; done) | (simp; omega))))))).mono ?_
    rintro e w1 ⟨h, hb1⟩
    rw [HR.out] at h
    obtain ⟨B, cb, rfl, hu⟩ := h
    obtain ⟨bb, ob, rfl, hbb, x0⟩ := hu.get hm0
    rw [HY0.out] at x0
    have d0 := fun i => (hb1.cell (p := ⟨w.heap.size, i, none⟩) (by simp)).trans ((al1_0 rfl).2.1 i)
    have z1 := hb1.size
    simp only [World.size_alloc] at z1
    have n1 : w.heap.size < w1.heap.size := by omega
    have B1 : Below w.heap.size w w1 := by (repeat first | with_reducible assumption | with_reducible exact Below.refl _ _ | (with_reducible refine Below.alloc ?_ ?side _; case side => (first | omega | (with_reducible exact Below.size (by assumption)) | (simp; done) | (simp; omega))) | (with_reducible refine Below.setCell ?_ ?side _; case side => (first | omega | (with_reducible exact Below.size (by assumption)) | (simp; done) | (simp; omega))) | with_reducible refine Below.drew ?_ | with_reducible refine below_drewN ?_ _ | (with_reducible refine below_step (by assumption) ?side ?_; case side => (first | omega | (with_reducible exact Below.size (by assumption)) | (simp; done) | (simp; omega))))
    have hmI : (0 : Int) < (m : Int) := by omega
    clear hu hb1
    go_wp2_with fail
    go_region_held3 (fun w' => w'.cell? ⟨w.heap.size, 0, none⟩ = some (.slice A n c) ∧ w'.cell? ⟨bb, ob, none⟩ = some (.int .u64 (y : Int)))
      (exact keep2 (wr := w1) (by (repeat first | with_reducible assumption | with_reducible exact Below.refl _ _ | (with_reducible refine Below.alloc ?_ ?side _; case side => (first | omega | (with_reducible exact Below.size (by assumption)) | (simp; done) | (simp; omega))) | (with_reducible refine Below.setCell ?_ ?side _; case side => (first | omega | (with_reducible exact Below.size (by assumption)) | (simp; done) | (simp; omega))) | with_reducible refine Below.drew ?_ | with_reducible refine below_drewN ?_ _ | (with_reducible refine below_step (by assumption) ?side ?_; case side => (first | omega | (with_reducible exact Below.size (by assumption)) | (simp; done) | (simp; omega))))) (d0 0) x0 n1 hbb)
      (first
        | (go_at_call 27; refine (hlc.out _).mono ?_; (rintro e w2 ⟨G2, c2, rfl, hi2, hb2⟩); have HI2 := Lib.hid hi2; have z2 := hb2.size; (try simp only [World.size_drew] at z2); clear hi2))
    all_goals
      go_wp2_with fail
      refine bodyPost_ret (v := .tuple #[.slice G2 (memN y n).length c2, .int .i64 0]) (by simp [results, Tryz.results8, go_sem]) rfl ⟨G2, c2, rfl, HI2.out, by (repeat first | with_reducible assumption | with_reducible exact Below.refl _ _ | (with_reducible refine Below.alloc ?_ ?side _; case side => (first | omega | (with_reducible exact Below.size (by assumption)) | (simp; done) | (simp; omega))) | (with_reducible refine Below.setCell ?_ ?side _; case side => (first | omega | (with_reducible exact Below.size (by assumption)) | (simp; done) | (simp; omega))) | with_reducible refine Below.drew ?_ | with_reducible refine below_drewN ?_ _ | (with_reducible refine below_step (by assumption) ?side ?_; case side => (first | omega | (with_reducible exact Below.size (by assumption)) | (simp; done) | (simp; omega))))⟩
set_option maxHeartbeats 400000 in
theorem fewest_c_q7 (A : Option Addr) (n c : Nat) (q : Cb) (ls : List Sp) (w : World) (hn : n ≤ 40) (hq : CbOk q) (HL : SpsAt w A n ls) :
    Calls Tryz.prog 23 #[.agg #[.slice A n c, .int .i64 q.need, .int .i64 q.gap, .int .i64 q.doubt, .int .i64 q.joins, .int .i64 q.least]] w fun e w' => e = .returned (.tuple #[.int .i64 ((plC n ls q).length : Nat), .int .i64 (erS_q7 n ls q)]) ∧ Below w.heap.size w w' := by
  have HLI := Lib.hid HL
  have hpc : ∀ W, Below w.heap.size w W → Calls Tryz.prog 8 #[.agg #[.slice A n c, .int .i64 q.need, .int .i64 q.gap, .int .i64 q.doubt, .int .i64 q.joins, .int .i64 q.least]] W (LiRet (plC n ls q) (erS_q7 n ls q) W) := fun W hW => Plan_c A n c q ls W hn hq (HLI.out.later hW)
  obtain ⟨L, hL⟩ : ∃ L, plC n ls q = L := ⟨_, rfl⟩
  obtain ⟨z, hz⟩ : ∃ z, erS_q7 n ls q = z := ⟨_, rfl⟩
  rw [hL, hz] at hpc ⊢
  have HPC := Lib.hid hpc
  clear HL hL hz hpc
  go_enter Tryz.func23, Tryz.ntmps23
  go_wp2_with fail
  refine (HPC.out _ (by (repeat first | with_reducible assumption | with_reducible exact Below.refl _ _ | (with_reducible refine Below.alloc ?_ ?side _; case side => (first | omega | (with_reducible exact Below.size (by assumption)) | (simp; done) | (simp; omega))) | (with_reducible refine Below.setCell ?_ ?side _; case side => (first | omega | (with_reducible exact Below.size (by assumption)) | (simp; done) | (simp; omega))) | with_reducible refine Below.drew ?_ | with_reducible refine below_drewN ?_ _ | (with_reducible refine below_step (by assumption) ?side ?_; case side => (first | omega | (with_reducible exact Below.size (by assumption)) | (simp; done) | (simp; omega)))))).mono ?_
  rintro e w1 ⟨G, cg, rfl, -, hb1⟩
  go_wp2_with fail
  exact bodyPost_ret (v := .tuple #[.int .i64 (L.length : Nat), .int .i64 z]) (by simp [results, Tryz.results23, go_sem]) rfl ⟨rfl, by (repeat first | with_reducible assumption | with_reducible exact Below.refl _ _ | (with_reducible refine Below.alloc ?_ ?side _; case side => (first | omega | (with_reducible exact Below.size (by assumption)) | (simp; done) | (simp; omega))) | (with_reducible refine Below.setCell ?_ ?side _; case side => (first | omega | (with_reducible exact Below.size (by assumption)) | (simp; done) | (simp; omega))) | with_reducible refine Below.drew ?_ | with_reducible refine below_drewN ?_ _ | (with_reducible refine below_step (by assumption) ?side ?_; case side => (first | omega | (with_reducible exact Below.size (by assumption)) | (simp; done) | (simp; omega))))⟩

end Go.Proofs.YtcbeiadimchknaaGreat

namespace Go.Proofs.YtcbeiadimchknaaGreat
open Go.RowKit
open Go.Sort (grow)
set_option linter.unusedVariables false
set_option linter.unusedSimpArgs false

def andL (y : Nat) (S : List Nat) : Nat := S.foldl (fun a b => a &&& b) y
def orL (S : List Nat) : Nat := S.foldl (fun a b => a ||| b) 0
theorem and_bit (S : List Nat) (y i : Nat) : (andL y S).testBit i = (y.testBit i && S.all fun x => x.testBit i) := by
  unfold andL
  induction S generalizing y with
  | nil => simp
  | cons a S ih => rw [List.foldl_cons, ih, Nat.testBit_and, List.all_cons, Bool.and_assoc]
theorem or_bitA (S : List Nat) (y i : Nat) : (S.foldl (fun a b => a ||| b) y).testBit i = (y.testBit i || S.any fun x => x.testBit i) := by
  induction S generalizing y with
  | nil => simp
  | cons a S ih => rw [List.foldl_cons, ih, Nat.testBit_or, List.any_cons, Bool.or_assoc]
theorem or_bit (S : List Nat) (i : Nat) : (orL S).testBit i = S.any fun x => x.testBit i := by unfold orL; rw [or_bitA]; simp
theorem and_le (S : List Nat) (y : Nat) : andL y S ≤ y := by
  unfold andL
  induction S generalizing y with
  | nil => exact Nat.le_refl _
  | cons a S ih => rw [List.foldl_cons]; exact Nat.le_trans (ih _) Nat.and_le_left
theorem or_lt (S : List Nat) (y k : Nat) (hy : y < 2 ^ k) (h : ∀ x ∈ S, x < 2 ^ k) : S.foldl (fun a b => a ||| b) y < 2 ^ k := by
  induction S generalizing y with
  | nil => exact hy
  | cons a S ih => rw [List.foldl_cons]; exact ih _ (Nat.or_lt_two_pow hy (h a (by simp))) fun x hx => h x (by simp [hx])
def muL (n : Nat) (ls : List Sp) (q : Cb) : List Nat := bif ckC n ls q then (match shL q ls n with | [] => [] | y :: r => memN (andL y (y :: r)) n) else []
def spL (n : Nat) (ls : List Sp) (q : Cb) : List Nat := bif ckC n ls q then (match shL q ls n with | [] => [] | y :: r => lefN (orL (y :: r)) n) else []
theorem take_fold {α β : Type} (f : β → α → β) (b : β) (S : List α) {k : Nat} {x : α} (h : S[k]? = some x) : (S.take (k + 1)).foldl f b = f ((S.take k).foldl f b) x := by
  rw [List.take_add_one, h, List.foldl_append]; rfl
theorem getD_of {S : List Nat} {k x : Nat} (h : S[k]? = some x) : S.getD k 0 = x := by rw [List.getD_eq_getElem?_getD, h]; rfl

end Go.Proofs.YtcbeiadimchknaaGreat

namespace Go.Proofs.YtcbeiadimchknaaGreat
open Go.RowKit
open Go.Sort (grow)
set_option linter.unusedVariables false
set_option linter.unusedSimpArgs false



end Go.Proofs.YtcbeiadimchknaaGreat

namespace Go.Proofs.YtcbeiadimchknaaGreat
open Go.RowKit
open Go.Sort (grow)
set_option linter.unusedVariables false
set_option linter.unusedSimpArgs false

theorem keep3 {wr w' : World} {p0 p1 p2 : Addr} {v0 v1 v2 : Value} (hb : Below wr.heap.size wr w') (h0 : wr.cell? p0 = some v0) (h1 : wr.cell? p1 = some v1) (h2 : wr.cell? p2 = some v2)
    (l0 : p0.block < wr.heap.size) (l1 : p1.block < wr.heap.size) (l2 : p2.block < wr.heap.size) : w'.cell? p0 = some v0 ∧ w'.cell? p1 = some v1 ∧ w'.cell? p2 = some v2 :=
  ⟨(hb.cell l0).trans h0, (hb.cell l1).trans h1, (hb.cell l2).trans h2⟩
/-- what the closure of Cheapest reads -/
structure ChM (bl bc bs bb : Nat) (A : Option Addr) (n c : Nat) (link shackle best : Int) (W : World) : Prop where
  b : Blk W bb 3 #[.int .i64 best]
  l : W.cell? ⟨bl, 0, none⟩ = some (.int .i64 link)
  s : W.cell? ⟨bs, 0, none⟩ = some (.int .i64 shackle)
  c : W.cell? ⟨bc, 0, none⟩ = some (.slice A n c)
  ne : bb ≠ bl ∧ bb ≠ bs ∧ bb ≠ bc
section
variable {bl bc bs bb : Nat} {A : Option Addr} {n c : Nat} {link shackle best : Int} {W W' : World}
theorem ChM.below (h : ChM bl bc bs bb A n c link shackle best W) (hb : Below W.heap.size W W') : ChM bl bc bs bb A n c link shackle best W' :=
  ⟨h.b.below hb h.b.lt, (hb.cell (World.block_lt_of_cell? _ _ h.l)).trans h.l, (hb.cell (World.block_lt_of_cell? _ _ h.s)).trans h.s, (hb.cell (World.block_lt_of_cell? _ _ h.c)).trans h.c, h.ne⟩
theorem ChM.set (h : ChM bl bc bs bb A n c link shackle best W) (k : Int) : ChM bl bc bs bb A n c link shackle k (W.setCell ⟨bb, 0, none⟩ (.int .i64 k)) := by
  have hw : ∀ {p : Addr} {u : Value}, W.cell? p = some u → bb ≠ p.block → (W.setCell ⟨bb, 0, none⟩ (.int .i64 k)).cell? p = some u := fun {p u} hc hn =>
    (World.cell?_of_block (Below.heap_setCell W _ _ p.block (fun e => hn e.symm))).trans hc
  refine ⟨?_, hw h.l h.ne.1, hw h.s h.ne.2.1, hw h.c h.ne.2.2, h.ne⟩
  have := h.b.set_ 0 (.int .i64 k)
  simpa using this
end
theorem prc_bd {link shackle : Int} (h1 : 0 ≤ link) (h2 : link ≤ 999) (h3 : 0 ≤ shackle) (h4 : shackle ≤ 999) {n : Nat} (hn : n ≤ 12) (x : Nat) :
    (0 ≤ link * (cntN x n : Int) ∧ link * (cntN x n : Int) ≤ 11988) ∧ 0 ≤ shackle * shk x n ∧ shackle * shk x n ≤ 11988 := by
  have a : cntN x n ≤ n := by
    unfold cntN
    have := selN_len x n true
    rwa [selN_true] at this
  have b : shk x n ≤ 12 := by
    have := pcs_len x n
    unfold shk; omega
  have c := shk_nonneg x n
  have d : link * (cntN x n : Int) ≤ 999 * 12 := Int.mul_le_mul h2 (by omega) (by omega) (by omega)
  have e : shackle * shk x n ≤ 999 * 12 := Int.mul_le_mul h4 b c (by omega)
  exact ⟨⟨Int.mul_nonneg h1 (by omega), by omega⟩, Int.mul_nonneg h3 c, by omega⟩

end Go.Proofs.YtcbeiadimchknaaGreat

namespace Go.Proofs.YtcbeiadimchknaaGreat
open Go.RowKit
open Go.Sort (grow)
set_option linter.unusedVariables false
set_option linter.unusedSimpArgs false

def chK (q : Cb) (ls : List Sp) (n : Nat) (link shackle : Int) (k : Nat) : Int := ((List.range k).filter (goodB q ls n)).foldl (chStep link shackle n) (-1)
theorem chK_yes {q : Cb} {ls : List Sp} {n k : Nat} {link shackle : Int} (h : goodB q ls n k = true) : chK q ls n link shackle (k + 1) = chStep link shackle n (chK q ls n link shackle k) k := by
  unfold chK; rw [List.range_succ, List.filter_append, List.foldl_append]; simp [h]
theorem chK_no {q : Cb} {ls : List Sp} {n k : Nat} {link shackle : Int} (h : goodB q ls n k = false) : chK q ls n link shackle (k + 1) = chK q ls n link shackle k := by
  unfold chK; rw [List.range_succ, List.filter_append, List.foldl_append]; simp [h]
theorem chK_all (q : Cb) (ls : List Sp) (n : Nat) (link shackle : Int) : chK q ls n link shackle (2 ^ n) = chV q ls n link shackle := rfl
theorem chK_bd {q : Cb} {ls : List Sp} {n : Nat} {link shackle : Int} (h1 : 0 ≤ link) (h2 : link ≤ 999) (h3 : 0 ≤ shackle) (h4 : shackle ≤ 999) (hn : n ≤ 12) (k : Nat) : -1 ≤ chK q ls n link shackle k ∧ chK q ls n link shackle k ≤ 100000 := by
  induction k with
  | zero => simp [chK]
  | succ k ih =>
    cases h : goodB q ls n k
    · rw [chK_no h]; exact ih
    · rw [chK_yes h]
      have := prc_bd h1 h2 h3 h4 hn k
      unfold chStep
      split
      · unfold prc; omega
      · exact ih
/-- what Cheapest hands back: a price, an error -/
def chR (n : Nat) (ls : List Sp) (q : Cb) (link shackle : Int) : Int × Int :=
  bif ckC n ls q then (bif (wi_q7 link 0 999 && wi_q7 shackle 0 999) then (bif decide (chV q ls n link shackle < 0) then (0, 3) else (chV q ls n link shackle, 0)) else (0, 1)) else (0, 70)
theorem chR_ck {n : Nat} {ls : List Sp} {q : Cb} (link shackle : Int) (h : ckC n ls q = false) : chR n ls q link shackle = (0, 70) := by simp [chR, h]
theorem chR_arg {n : Nat} {ls : List Sp} {q : Cb} {link shackle : Int} (h : ckC n ls q = true) (h2 : (wi_q7 link 0 999 && wi_q7 shackle 0 999) = false) : chR n ls q link shackle = (0, 1) := by unfold chR; rw [h, h2]; rfl
theorem chR_ok {n : Nat} {ls : List Sp} {q : Cb} {link shackle : Int} (h : ckC n ls q = true) (h2 : (wi_q7 link 0 999 && wi_q7 shackle 0 999) = true) :
    chR n ls q link shackle = bif decide (chV q ls n link shackle < 0) then (0, 3) else (chV q ls n link shackle, 0) := by unfold chR; rw [h, h2]; rfl

end Go.Proofs.YtcbeiadimchknaaGreat
