/- Cheapest of repairs (layer 7). -/
import Derived.Test.YthjjakhmbgnnnaaCh7
namespace Go.Proofs.Ythjjakhmbgnnnaa
open Go.RowKit
open Go.Sort (grow)
set_option linter.unusedVariables false

def chK (q : Cb) (ls : List Sp) (n : Nat) (link shackle : Int) (k : Nat) : Int := ((List.range k).filter (goodB q ls n)).foldl (chStep link shackle n) (-1)
theorem chK_yes {q : Cb} {ls : List Sp} {n k : Nat} {link shackle : Int} (h : goodB q ls n k = true) : chK q ls n link shackle (k + 1) = chStep link shackle n (chK q ls n link shackle k) k := by
  unfold chK; rw [List.range_succ, List.filter_append, List.foldl_append]; simp [h]
theorem chK_no {q : Cb} {ls : List Sp} {n k : Nat} {link shackle : Int} (h : goodB q ls n k = false) : chK q ls n link shackle (k + 1) = chK q ls n link shackle k := by
  unfold chK; rw [List.range_succ, List.filter_append, List.foldl_append]; simp [h]
theorem chK_all (q : Cb) (ls : List Sp) (n : Nat) (link shackle : Int) : chK q ls n link shackle (2 ^ n) = chV q ls n link shackle := rfl
theorem chK_bd {q : Cb} {ls : List Sp} {n : Nat} {link shackle : Int} (h1 : 0 ≤ link) (h2 : link ≤ 999) (h3 : 0 ≤ shackle) (h4 : shackle ≤ 999) (hn : n ≤ 12) (k : Nat) : -1 ≤ chK q ls n link shackle k ∧ chK q ls n link shackle k ≤ 100000 := by
  induction k with
  | zero => simp [chK]
  | succ k ih =>
    cases h : goodB q ls n k
    · rw [chK_no h]; exact ih
    · rw [chK_yes h]
      have := prc_bd h1 h2 h3 h4 hn k
      unfold chStep
      split
      · unfold prc; omega
      · exact ih
/-- what Cheapest hands back: a price, an error -/
def chR (n : Nat) (ls : List Sp) (q : Cb) (link shackle : Int) : Int × Int :=
  bif ckC n ls q then (bif (wi link 0 999 && wi shackle 0 999) then (bif decide (chV q ls n link shackle < 0) then (0, 3) else (chV q ls n link shackle, 0)) else (0, 1)) else (0, 70)
theorem chR_ck {n : Nat} {ls : List Sp} {q : Cb} (link shackle : Int) (h : ckC n ls q = false) : chR n ls q link shackle = (0, 70) := by simp [chR, h]
theorem chR_arg {n : Nat} {ls : List Sp} {q : Cb} {link shackle : Int} (h : ckC n ls q = true) (h2 : (wi link 0 999 && wi shackle 0 999) = false) : chR n ls q link shackle = (0, 1) := by unfold chR; rw [h, h2]; rfl
theorem chR_ok {n : Nat} {ls : List Sp} {q : Cb} {link shackle : Int} (h : ckC n ls q = true) (h2 : (wi link 0 999 && wi shackle 0 999) = true) :
    chR n ls q link shackle = bif decide (chV q ls n link shackle < 0) then (0, 3) else (chV q ls n link shackle, 0) := by unfold chR; rw [h, h2]; rfl
set_option maxRecDepth 100000 in
set_option maxHeartbeats 3200000 in
theorem cheapest_c (A : Option Addr) (n c : Nat) (q : Cb) (link shackle : Int) (ls : List Sp) (w : World) (hn : n ≤ 40) (hq : CbOk q) (HL : SpsAt w A n ls) :
    Calls Try.prog 18 #[.agg #[.slice A n c, .int .i64 q.need, .int .i64 q.gap, .int .i64 q.doubt, .int .i64 q.joins, .int .i64 q.least], .int .i64 link, .int .i64 shackle] w
      fun e w' => e = .returned (.tuple #[.int .i64 (chR n ls q link shackle).1, .int .i64 (chR n ls q link shackle).2]) ∧ Below w.heap.size w w' := by
  have HLI := Lib.hid HL
  clear HL
  have hcc : ∀ W, Below w.heap.size w W → Calls Try.prog 30 #[.agg #[.slice A n c, .int .i64 q.need, .int .i64 q.gap, .int .i64 q.doubt, .int .i64 q.joins, .int .i64 q.least]] W fun e w' => e = .returned (.int .i64 (erC (ckC n ls q))) ∧ Below W.heap.size W w' := fun W hW =>
    check_c A n c q ls W hn hq (HLI.out.later hW)
  have hwl : ∀ W, Calls Try.prog 45 #[.int .i64 link, .int .i64 0, .int .i64 999] W fun e W' => e = .returned (.bool (wi link 0 999)) ∧ W = W' := fun W => within_c _ _ _ _
  have hws : ∀ W, Calls Try.prog 45 #[.int .i64 shackle, .int .i64 0, .int .i64 999] W fun e W' => e = .returned (.bool (wi shackle 0 999)) ∧ W = W' := fun W => within_c _ _ _ _
  obtain ⟨cl, hcl⟩ : ∃ v, wi link 0 999 = v := ⟨_, rfl⟩
  obtain ⟨cs, hcs⟩ : ∃ v, wi shackle 0 999 = v := ⟨_, rfl⟩
  rw [hcl] at hwl
  rw [hcs] at hws
  replace hwl := Lib.hid hwl
  replace hws := Lib.hid hws
  cases hck : ckC n ls q
  · rw [chR_ck link shackle hck]
    have e0 : erC (ckC n ls q) = 70 := by rw [hck]; rfl
    rw [e0] at hcc
    replace hcc := Lib.hid hcc
    clear hck e0 hcl hcs
    go_enter Try.func18, Try.ntmps18
    go_wp2_with (go_at_call 30; refine (hcc.out _ (by (repeat first | with_reducible assumption | with_reducible exact Below.refl _ _ | (with_reducible refine Below.alloc ?_ ?side _; case side => (first | omega | (with_reducible exact Below.size (by assumption)) | (simp; done) | (simp; omega))) | (with_reducible refine Below.setCell ?_ ?side _; case side => (first | omega | (with_reducible exact Below.size (by assumption)) | (simp; done) | (simp; omega))) | with_reducible refine Below.drew ?_ | with_reducible refine below_drewN ?_ _ | (with_reducible refine below_step (by assumption) ?side ?_; case side => (first | omega | (with_reducible exact Below.size (by assumption)) | (simp; done) | (simp; omega)))))).mono ?_; (rintro e w1 ⟨rfl, hb1⟩; obtain ⟨hc1, hf1⟩ := bcell hb1; have zs1 := hb1.size; (try simp at zs1); have n1_0 : w.heap.size < w1.heap.size := (by omega)))
    exact bodyPost_ret (v := .tuple #[.int .i64 0, .int .i64 70]) (by simp [results, Try.results18, go_sem]) rfl ⟨rfl, by (repeat first | with_reducible assumption | with_reducible exact Below.refl _ _ | (with_reducible refine Below.alloc ?_ ?side _; case side => (first | omega | (with_reducible exact Below.size (by assumption)) | (simp; done) | (simp; omega))) | (with_reducible refine Below.setCell ?_ ?side _; case side => (first | omega | (with_reducible exact Below.size (by assumption)) | (simp; done) | (simp; omega))) | with_reducible refine Below.drew ?_ | with_reducible refine below_drewN ?_ _ | (with_reducible refine below_step (by assumption) ?side ?_; case side => (first | omega | (with_reducible exact Below.size (by assumption)) | (simp; done) | (simp; omega))))⟩
  have e0 : erC (ckC n ls q) = 0 := by rw [hck]; rfl
  rw [e0] at hcc
  replace hcc := Lib.hid hcc
  cases cl
  · rw [chR_arg hck (by rw [hcl]; rfl)]
    clear hck e0 hcl hcs
    go_enter Try.func18, Try.ntmps18
    go_wp2_with (go_at_call 30; refine (hcc.out _ (by (repeat first | with_reducible assumption | with_reducible exact Below.refl _ _ | (with_reducible refine Below.alloc ?_ ?side _; case side => (first | omega | (with_reducible exact Below.size (by assumption)) | (simp; done) | (simp; omega))) | (with_reducible refine Below.setCell ?_ ?side _; case side => (first | omega | (with_reducible exact Below.size (by assumption)) | (simp; done) | (simp; omega))) | with_reducible refine Below.drew ?_ | with_reducible refine below_drewN ?_ _ | (with_reducible refine below_step (by assumption) ?side ?_; case side => (first | omega | (with_reducible exact Below.size (by assumption)) | (simp; done) | (simp; omega)))))).mono ?_; (rintro e w1 ⟨rfl, hb1⟩; obtain ⟨hc1, hf1⟩ := bcell hb1; have zs1 := hb1.size; (try simp at zs1); have n1_0 : w.heap.size < w1.heap.size := (by omega)))
    have d1 := fun j => (hc1 (w.heap.size + 1) j (by first | omega | (simp; done) | (simp; omega))).trans ((al3_1 rfl).2.1 j)
    have d2 := fun j => (hc1 (w.heap.size + 1 + 1) j (by first | omega | (simp; done) | (simp; omega))).trans ((al3_2 rfl).2.1 j)
    clear hc1 hf1
    go_wp2_with (go_at_call 45; refine (hwl.out _).mono ?_; rintro e w' ⟨rfl, rfl⟩)
    exact bodyPost_ret (v := .tuple #[.int .i64 0, .int .i64 1]) (by simp [results, Try.results18, go_sem]) rfl ⟨rfl, by (repeat first | with_reducible assumption | with_reducible exact Below.refl _ _ | (with_reducible refine Below.alloc ?_ ?side _; case side => (first | omega | (with_reducible exact Below.size (by assumption)) | (simp; done) | (simp; omega))) | (with_reducible refine Below.setCell ?_ ?side _; case side => (first | omega | (with_reducible exact Below.size (by assumption)) | (simp; done) | (simp; omega))) | with_reducible refine Below.drew ?_ | with_reducible refine below_drewN ?_ _ | (with_reducible refine below_step (by assumption) ?side ?_; case side => (first | omega | (with_reducible exact Below.size (by assumption)) | (simp; done) | (simp; omega))))⟩
  cases cs
  · rw [chR_arg hck (by rw [hcl, hcs]; rfl)]
    clear hck e0 hcl hcs
    go_enter Try.func18, Try.ntmps18
    go_wp2_with (go_at_call 30; refine (hcc.out _ (by (repeat first | with_reducible assumption | with_reducible exact Below.refl _ _ | (with_reducible refine Below.alloc ?_ ?side _; case side => (first | omega | (with_reducible exact Below.size (by assumption)) | (simp; done) | (simp; omega))) | (with_reducible refine Below.setCell ?_ ?side _; case side => (first | omega | (with_reducible exact Below.size (by assumption)) | (simp; done) | (simp; omega))) | with_reducible refine Below.drew ?_ | with_reducible refine below_drewN ?_ _ | (with_reducible refine below_step (by assumption) ?side ?_; case side => (first | omega | (with_reducible exact Below.size (by assumption)) | (simp; done) | (simp; omega)))))).mono ?_; (rintro e w1 ⟨rfl, hb1⟩; obtain ⟨hc1, hf1⟩ := bcell hb1; have zs1 := hb1.size; (try simp at zs1); have n1_0 : w.heap.size < w1.heap.size := (by omega)))
    have d1 := fun j => (hc1 (w.heap.size + 1) j (by first | omega | (simp; done) | (simp; omega))).trans ((al3_1 rfl).2.1 j)
    have d2 := fun j => (hc1 (w.heap.size + 1 + 1) j (by first | omega | (simp; done) | (simp; omega))).trans ((al3_2 rfl).2.1 j)
    clear hc1 hf1
    go_wp2_with (go_at_call 45; first | (with_reducible refine (hwl.out _).mono ?_; rintro e w' ⟨rfl, rfl⟩) | (with_reducible refine (hws.out _).mono ?_; rintro e w' ⟨rfl, rfl⟩))
    exact bodyPost_ret (v := .tuple #[.int .i64 0, .int .i64 1]) (by simp [results, Try.results18, go_sem]) rfl ⟨rfl, by (repeat first | with_reducible assumption | with_reducible exact Below.refl _ _ | (with_reducible refine Below.alloc ?_ ?side _; case side => (first | omega | (with_reducible exact Below.size (by assumption)) | (simp; done) | (simp; omega))) | (with_reducible refine Below.setCell ?_ ?side _; case side => (first | omega | (with_reducible exact Below.size (by assumption)) | (simp; done) | (simp; omega))) | with_reducible refine Below.drew ?_ | with_reducible refine below_drewN ?_ _ | (with_reducible refine below_step (by assumption) ?side ?_; case side => (first | omega | (with_reducible exact Below.size (by assumption)) | (simp; done) | (simp; omega))))⟩
  have hr := Lib.hid (chR_ok (link := link) (shackle := shackle) hck (by rw [hcl, hcs]; rfl))
  have hn12 := ck_len hck
  have hl1 := wi_true.1 hcl
  have hl2 := wi_true.1 hcs
  have HBD := Lib.hid (chK_bd (q := q) (ls := ls) hl1.1 hl1.2 hl2.1 hl2.2 hn12)
  have HCS := Lib.hid (fun (bl bc bs bb x : Nat) (best : Int) (w : World) (hx : x < 4096) => cheap1_c bl bc bs bb x n c A link shackle best w hx hn12 hl1.1 hl1.2 hl2.1 hl2.2)
  have hp12 : (2 : Nat) ^ n ≤ 4096 := by
    have : 2 ^ n ≤ 2 ^ 12 := Nat.pow_le_pow_right (by omega) hn12
    omega
  have HP12 := Lib.hid hp12
  clear hck e0 hcl hcs hp12 hl1 hl2
  go_enter Try.func18, Try.ntmps18
  go_wp2_with (go_at_call 30; refine (hcc.out _ (by (repeat first | with_reducible assumption | with_reducible exact Below.refl _ _ | (with_reducible refine Below.alloc ?_ ?side _; case side => (first | omega | (with_reducible exact Below.size (by assumption)) | (simp; done) | (simp; omega))) | (with_reducible refine Below.setCell ?_ ?side _; case side => (first | omega | (with_reducible exact Below.size (by assumption)) | (simp; done) | (simp; omega))) | with_reducible refine Below.drew ?_ | with_reducible refine below_drewN ?_ _ | (with_reducible refine below_step (by assumption) ?side ?_; case side => (first | omega | (with_reducible exact Below.size (by assumption)) | (simp; done) | (simp; omega)))))).mono ?_; (rintro e w1 ⟨rfl, hb1⟩; obtain ⟨hc1, hf1⟩ := bcell hb1; have zs1 := hb1.size; (try simp at zs1); have n1_0 : w.heap.size < w1.heap.size := (by omega)))
  have d1 := fun j => (hc1 (w.heap.size + 1) j (by first | omega | (simp; done) | (simp; omega))).trans ((al3_1 rfl).2.1 j)
  have d2 := fun j => (hc1 (w.heap.size + 1 + 1) j (by first | omega | (simp; done) | (simp; omega))).trans ((al3_2 rfl).2.1 j)
  have d3 : Hid (Blk w1 w.heap.size 24 #[.slice A n c, .int .i64 q.need, .int .i64 q.gap, .int .i64 q.doubt, .int .i64 q.joins, .int .i64 q.least]) := ((((Blk.new w _ _).alloc _).alloc _)).below hb1 (by simp; omega)
  have d0 := d3.out.cell
  have B1 : Below w.heap.size w w1 := by (repeat first | with_reducible assumption | with_reducible exact Below.refl _ _ | (with_reducible refine Below.alloc ?_ ?side _; case side => (first | omega | (with_reducible exact Below.size (by assumption)) | (simp; done) | (simp; omega))) | (with_reducible refine Below.setCell ?_ ?side _; case side => (first | omega | (with_reducible exact Below.size (by assumption)) | (simp; done) | (simp; omega))) | with_reducible refine Below.drew ?_ | with_reducible refine below_drewN ?_ _ | (with_reducible refine below_step (by assumption) ?side ?_; case side => (first | omega | (with_reducible exact Below.size (by assumption)) | (simp; done) | (simp; omega))))
  have z1 := zs1
  clear hc1 hf1 hb1
  go_wp2_with (go_at_call 45; first | (with_reducible refine (hwl.out _).mono ?_; rintro e w' ⟨rfl, rfl⟩) | (with_reducible refine (hws.out _).mono ?_; rintro e w' ⟨rfl, rfl⟩))
  have en : ∀ args w, (callFunc 47 args).run Try.prog w = .ok (.enter 47 args) w := enters_of Try.func47 (by kernel_rfl) rfl
  obtain ⟨X, hX⟩ : ∃ X, w1.alloc (.cells #[.int .i64 (-1)] 3) = X := ⟨_, rfl⟩
  rw [hX]
  have hBX : Below w1.heap.size w1 X := (al1 hX).1
  have zX : X.heap.size = w1.heap.size + 1 := (al1 hX).2
  have O0 : Blk X w1.heap.size 3 #[.int .i64 (-1)] := by
    have h := Blk.new w1 3 #[.int .i64 (-1)]
    rw [hX] at h
    exact h
  have D3 := d3.out.below hBX (by have := d3.out.lt; omega)
  have D1 := (hBX.cell (p := ⟨w.heap.size + 1, 0, none⟩) (by simp; omega)).trans (d1 0)
  have D2 := (hBX.cell (p := ⟨w.heap.size + 1 + 1, 0, none⟩) (by simp; omega)).trans (d2 0)
  have BX : Below w.heap.size w X := B1.trans (hBX.mono (by omega))
  have n0 := d3.out.lt
  refine (good_c A n c 47 #[] #[.pointer (some ⟨w.heap.size + 1, 0, none⟩), .pointer (some ⟨w.heap.size, 0, none⟩), .pointer (some ⟨w.heap.size + 1 + 1, 0, none⟩), .pointer (some ⟨w1.heap.size, 0, none⟩)] q ls X hn12
    (fun k W => ChM (w.heap.size + 1) w.heap.size (w.heap.size + 1 + 1) w1.heap.size A n c link shackle (chK q ls n link shackle k) W ∧ Blk W X.heap.size 24 #[.slice A n c, .int .i64 q.need, .int .i64 q.gap, .int .i64 q.doubt, .int .i64 q.joins, .int .i64 q.least] ∧ Below w.heap.size w W)
    ?h0 ?hmem ?hlater ?hskip en ?hyield).mono ?_
  case h0 =>
    have f := (Below.refl X.heap.size X).alloc (Nat.le_refl _) (.cells #[.slice A n c, .int .i64 q.need, .int .i64 q.gap, .int .i64 q.doubt, .int .i64 q.joins, .int .i64 q.least] 24)
    exact ⟨⟨O0.alloc _, (f.cell (p := ⟨w.heap.size + 1, 0, none⟩) (by simp; omega)).trans D1, (f.cell (p := ⟨w.heap.size + 1 + 1, 0, none⟩) (by simp; omega)).trans D2, (D3.alloc _).cell 0, ⟨by omega, by omega, by omega⟩⟩, Blk.new _ _ _, BX.alloc BX.size _⟩
  case hmem => rintro k W ⟨h1, h2, h3⟩; exact ⟨HLI.out.later h3, h2⟩
  case hlater => rintro k W W' ⟨h1, h2, h3⟩ hb; exact ⟨h1.below hb, h2.below hb h2.lt, h3.trans (hb.mono h3.size)⟩
  case hskip => rintro k W hk hg ⟨h1, h2, h3⟩; exact ⟨by rw [chK_no hg]; exact h1, h2, h3⟩
  case hyield =>
    rintro k W hk hg ⟨h1, h2, h3⟩
    have hp := HP12.out
    have l2 := h2.lt
    have := HCS.out (w.heap.size + 1) w.heap.size (w.heap.size + 1 + 1) w1.heap.size k (chK q ls n link shackle k) W (by omega) (HBD.out k).1 (HBD.out k).2 h1
    refine Calls.mono ?_ (fun e W' (h : e = .returned (.bool true) ∧ ChM (w.heap.size + 1) w.heap.size (w.heap.size + 1 + 1) w1.heap.size A n c link shackle (chStep link shackle n (chK q ls n link shackle k) k) W' ∧ Fr w1.heap.size W.heap.size W W') => ?_)
    · simpa using this
    · obtain ⟨rfl, h4, h5⟩ := h
      exact ⟨rfl, by rw [chK_yes hg]; exact h4, h5.blk h2 (by omega) (by omega), h5.below h3 (by omega) h3.size h3.size⟩
  rintro e w3 ⟨rfl, h1, -, h3⟩
  rw [chK_all] at h1
  have o0 := h1.b.cell
  have ol := h1.b.lt
  have B3 := Lib.hid h3
  obtain ⟨v, hv⟩ : ∃ v, chV q ls n link shackle = v := ⟨_, rfl⟩
  rw [hv] at hr o0
  clear h1 h3 hv hX hBX O0 D1 D2 D3 BX d3 d0 d1 d2 B1 en HBD HCS HP12
  cases e1 : decide (v < 0)
  · rw [e1] at hr
    go_wp2_with fail
    refine bodyPost_ret (v := .tuple #[.int .i64 v, .int .i64 0]) (by simp [results, Try.results18, go_sem]) rfl ⟨?_, B3.out⟩
    rw [hr.out]; rfl
  · rw [e1] at hr
    go_wp2_with fail
    refine bodyPost_ret (v := .tuple #[.int .i64 0, .int .i64 3]) (by simp [results, Try.results18, go_sem]) rfl ⟨?_, B3.out⟩
    rw [hr.out]; rfl

end Go.Proofs.Ythjjakhmbgnnnaa
