/- Strong of the specification (layer 7). -/
import Derived.Test.YthjjakhmbgnnnaaRs7
import Derived.Test.YthjjakhmbgnnnaaLv7
import Derived.Test.YthjjakhmbgnnnaaTr7
namespace Go.Proofs.Ythjjakhmbgnnnaa
open Go.RowKit
open Go.Sort (grow)
set_option linter.unusedVariables false

attribute [local go_sem] run_max2
def nds (ls : List Sp) (k : Nat) : List Int := 0 :: cndK ls k
theorem nds_succ {ls : List Sp} {k : Nat} (hk : k < ls.length) : nds ls (k + 1) = nds ls k ++ [(spAt ls k).lo, (spAt ls k).hi] := by
  unfold nds; rw [cndK_succ hk]; rfl
theorem nds_len {ls : List Sp} {k : Nat} (hk : k ≤ ls.length) : (nds ls k).length = 2 * k + 2 := by
  unfold nds; rw [List.length_cons, cndK_len hk]
theorem nds_mem {ls : List Sp} {n : Nat} {v : Int} (hl : ls.length = n) : v ∈ nds ls n ↔ v = 0 ∨ v ∈ cand ls := by
  unfold nds; rw [List.mem_cons, cndK_all hl]
/-- the best so far -/
def StB (p : Int → Bool) (N : List Int) (k : Nat) (b : Int) : Prop :=
  (b = -1 ∧ ∀ j, j < k → p (iAt N j) = false) ∨ ((∃ j, j < k ∧ b = iAt N j ∧ p b = true) ∧ ∀ j, j < k → p (iAt N j) = true → iAt N j ≤ b)
theorem StB.no {p : Int → Bool} {N : List Int} {k : Nat} {b : Int} (h : StB p N k b) (hp : p (iAt N k) = false) : StB p N (k + 1) b := by
  rcases h with ⟨rfl, h⟩ | ⟨⟨j, hj, e, hb⟩, h⟩
  · refine .inl ⟨rfl, fun j hj => ?_⟩
    rcases Nat.lt_succ_iff_lt_or_eq.1 hj with h' | rfl
    · exact h j h'
    · exact hp
  · refine .inr ⟨⟨j, by omega, e, hb⟩, fun i hi hpi => ?_⟩
    rcases Nat.lt_succ_iff_lt_or_eq.1 hi with h' | rfl
    · exact h i h' hpi
    · rw [hp] at hpi; cases hpi
theorem StB.yes {p : Int → Bool} {N : List Int} {k : Nat} {b : Int} (h : StB p N k b) (hp : p (iAt N k) = true) (h0 : 0 ≤ iAt N k) : StB p N (k + 1) (max b (iAt N k)) := by
  rcases h with ⟨rfl, h⟩ | ⟨⟨j, hj, e, hb⟩, h⟩
  · have e : max (-1) (iAt N k) = iAt N k := by omega
    rw [e]
    refine .inr ⟨⟨k, by omega, rfl, hp⟩, fun i hi hpi => ?_⟩
    rcases Nat.lt_succ_iff_lt_or_eq.1 hi with h' | rfl
    · rw [h i h'] at hpi; cases hpi
    · exact Int.le_refl _
  · refine .inr ⟨?_, fun i hi hpi => ?_⟩
    · rcases (by omega : max b (iAt N k) = b ∨ max b (iAt N k) = iAt N k) with e' | e'
      · exact ⟨j, by omega, by rw [e', ← e], by rw [e']; exact hb⟩
      · exact ⟨k, by omega, e', by rw [e']; exact hp⟩
    · rcases Nat.lt_succ_iff_lt_or_eq.1 hi with h' | rfl
      · have := h i h' hpi; omega
      · omega
theorem stB_end {q : Cb} {ls : List Sp} {n : Nat} {cuts b : Int} (hs : OkSp ls n) (h : StB (okB q ls n cuts) (nds ls n) (nds ls n).length b) : (b = -1 ∧ strO q ls n cuts = none) ∨ (0 ≤ b ∧ strO q ls n cuts = some b) := by
  have hmem : ∀ v, v ∈ nds ls n → ∃ j, j < (nds ls n).length ∧ iAt (nds ls n) j = v := fun v hv => by
    obtain ⟨j, hj, rfl⟩ := List.getElem_of_mem hv
    exact ⟨j, hj, by unfold iAt; rw [List.getD_eq_getElem?_getD, List.getElem?_eq_getElem hj]; rfl⟩
  rcases h with ⟨rfl, h⟩ | ⟨⟨j, hj, e, hb⟩, h⟩
  · refine .inl ⟨rfl, srt_none.2 fun c hc => ?_⟩
    obtain ⟨j, hj, rfl⟩ := hmem c ((nds_mem hs.1).2 (.inr hc))
    exact h j hj
  · have hbm : b ∈ nds ls n := by rw [e]; exact iAt_mem hj
    have hb9 : 0 ≤ b ∧ b ≤ 9999 := by
      rcases (nds_mem hs.1).1 hbm with rfl | hc
      · omega
      · rcases cand_mem.1 hc with rfl | ⟨i, hi, e⟩
        · omega
        · have := hs.2 i (by have := hs.1; omega)
          rcases e with rfl | rfl <;> omega
    refine .inr ⟨hb9.1, str_unique hs hb9.2 hb fun v hv hok => ?_⟩
    obtain ⟨c, hc, h2⟩ := (strong_iff hs hv).1 hok
    have h3 := srt_spec hc
    obtain ⟨i, hi, e⟩ := hmem c ((nds_mem hs.1).2 (.inr h3.1))
    have := h i hi (by rw [e]; exact h3.2.1)
    omega
set_option maxRecDepth 100000 in
set_option maxHeartbeats 3200000 in
theorem refStrong_c (A : Option Addr) (n c : Nat) (q : Cb) (cuts : Int) (ls : List Sp) (w : World) (hn : n ≤ 40) (HL : SpsAt w A n ls) :
    Calls Try.prog 24 #[.agg #[.slice A n c, .int .i64 q.need, .int .i64 q.gap, .int .i64 q.doubt, .int .i64 q.joins, .int .i64 q.least], .int .i64 cuts] w
      fun e w' => e = .returned (.tuple #[.int .i64 (stR n ls q cuts).1, .int .i64 (stR n ls q cuts).2]) ∧ Below w.heap.size w w' := by
  have HLI := Lib.hid HL
  have hck : ∀ V, Below w.heap.size w V → Calls Try.prog 31 #[.agg #[.slice A n c, .int .i64 q.need, .int .i64 q.gap, .int .i64 q.doubt, .int .i64 q.joins, .int .i64 q.least]] V fun e w' => e = .returned (.int .i64 (erC (ckC n ls q))) ∧ Below V.heap.size V w' := fun V hV => refCheck_c A n c q ls V hn (HLI.out.later hV)
  clear HL
  cases h1 : ckC n ls q
  · rw [h1, show erC false = 70 from rfl] at hck
    rw [show stR n ls q cuts = (0, 70) by simp [stR, h1]]
    replace hck := Lib.hid hck
    clear h1
    go_enter Try.func24, Try.ntmps24
    go_wp2_with (go_at_call 31; refine (hck.out _ (by (repeat first | with_reducible assumption | with_reducible exact Below.refl _ _ | (with_reducible refine Below.alloc ?_ ?side _; case side => (first | omega | (with_reducible exact Below.size (by assumption)) | (simp; done) | (simp; omega))) | (with_reducible refine Below.setCell ?_ ?side _; case side => (first | omega | (with_reducible exact Below.size (by assumption)) | (simp; done) | (simp; omega))) | with_reducible refine Below.drew ?_ | with_reducible refine below_drewN ?_ _ | (with_reducible refine below_step (by assumption) ?side ?_; case side => (first | omega | (with_reducible exact Below.size (by assumption)) | (simp; done) | (simp; omega)))))).mono ?_; (rintro e w1 ⟨rfl, hb1⟩; obtain ⟨hc1, hf1⟩ := bcell hb1; have zs1 := hb1.size; (try simp at zs1); have n1_0 : w.heap.size < w1.heap.size := (by omega)))
    exact bodyPost_ret (v := .tuple #[.int .i64 0, .int .i64 70]) (by simp [results, Try.results24, go_sem]) rfl ⟨rfl, by (repeat first | with_reducible assumption | with_reducible exact Below.refl _ _ | (with_reducible refine Below.alloc ?_ ?side _; case side => (first | omega | (with_reducible exact Below.size (by assumption)) | (simp; done) | (simp; omega))) | (with_reducible refine Below.setCell ?_ ?side _; case side => (first | omega | (with_reducible exact Below.size (by assumption)) | (simp; done) | (simp; omega))) | with_reducible refine Below.drew ?_ | with_reducible refine below_drewN ?_ _ | (with_reducible refine below_step (by assumption) ?side ?_; case side => (first | omega | (with_reducible exact Below.size (by assumption)) | (simp; done) | (simp; omega))))⟩
  rw [h1, show erC true = 0 from rfl] at hck
  replace hck := Lib.hid hck
  have hwc : ∀ Z, Calls Try.prog 52 #[.int .i64 cuts, .int .i64 0, .int .i64 12] Z fun e Z' => e = .returned (.bool (wi cuts 0 12)) ∧ Z = Z' := fun Z => withinR_c _ _ _ _
  cases hcu : wi cuts 0 12
  · rw [show stR n ls q cuts = (0, 1) by simp [stR, h1, hcu]]
    rw [hcu] at hwc
    replace hwc := Lib.hid hwc
    clear h1 hcu
    go_enter Try.func24, Try.ntmps24
    go_wp2_with (first | (go_at_call 31; refine (hck.out _ (by (repeat first | with_reducible assumption | with_reducible exact Below.refl _ _ | (with_reducible refine Below.alloc ?_ ?side _; case side => (first | omega | (with_reducible exact Below.size (by assumption)) | (simp; done) | (simp; omega))) | (with_reducible refine Below.setCell ?_ ?side _; case side => (first | omega | (with_reducible exact Below.size (by assumption)) | (simp; done) | (simp; omega))) | with_reducible refine Below.drew ?_ | with_reducible refine below_drewN ?_ _ | (with_reducible refine below_step (by assumption) ?side ?_; case side => (first | omega | (with_reducible exact Below.size (by assumption)) | (simp; done) | (simp; omega)))))).mono ?_; (rintro e w1 ⟨rfl, hb1⟩; obtain ⟨hc1, hf1⟩ := bcell hb1; have zs1 := hb1.size; (try simp at zs1); have n1_0 : w.heap.size < w1.heap.size := (by omega))) | (go_at_call 52; refine (hwc.out _).mono ?_; rintro e w' ⟨rfl, rfl⟩))
    exact bodyPost_ret (v := .tuple #[.int .i64 0, .int .i64 1]) (by simp [results, Try.results24, go_sem]) rfl ⟨rfl, by (repeat first | with_reducible assumption | with_reducible exact Below.refl _ _ | (with_reducible refine Below.alloc ?_ ?side _; case side => (first | omega | (with_reducible exact Below.size (by assumption)) | (simp; done) | (simp; omega))) | (with_reducible refine Below.setCell ?_ ?side _; case side => (first | omega | (with_reducible exact Below.size (by assumption)) | (simp; done) | (simp; omega))) | with_reducible refine Below.drew ?_ | with_reducible refine below_drewN ?_ _ | (with_reducible refine below_step (by assumption) ?side ?_; case side => (first | omega | (with_reducible exact Below.size (by assumption)) | (simp; done) | (simp; omega))))⟩
  have e1 : stR n ls q cuts = stO2 (strO q ls n cuts) := by simp [stR, h1, hcu]
  rw [e1]
  obtain ⟨R, hR⟩ : ∃ R, stO2 (strO q ls n cuts) = R := ⟨_, rfl⟩
  rw [hR]
  have hs := okSp_of HLI.out.1 h1
  have HEND := Lib.hid (fun b (h : StB (okB q ls n cuts) (nds ls n) (nds ls n).length b) => (by
    rcases stB_end hs h with ⟨a, e⟩ | ⟨a, e⟩
    · exact .inl ⟨a, by rw [← hR, e]; rfl⟩
    · exact .inr ⟨a, by rw [← hR, e]; rfl⟩ : (b = -1 ∧ R = (0, 3)) ∨ (0 ≤ b ∧ R = (b, 0))))
  have hn12 := ck_len h1
  have HCK := Lib.hid h1
  have HSP := Lib.hid hs
  have HLL := Lib.hid HLI.out.1
  rw [hcu] at hwc
  replace hwc := Lib.hid hwc
  clear h1 hcu e1 hR hs
  go_enter Try.func24, Try.ntmps24
  go_wp2_with (first | (go_at_call 31; refine (hck.out _ (by (repeat first | with_reducible assumption | with_reducible exact Below.refl _ _ | (with_reducible refine Below.alloc ?_ ?side _; case side => (first | omega | (with_reducible exact Below.size (by assumption)) | (simp; done) | (simp; omega))) | (with_reducible refine Below.setCell ?_ ?side _; case side => (first | omega | (with_reducible exact Below.size (by assumption)) | (simp; done) | (simp; omega))) | with_reducible refine Below.drew ?_ | with_reducible refine below_drewN ?_ _ | (with_reducible refine below_step (by assumption) ?side ?_; case side => (first | omega | (with_reducible exact Below.size (by assumption)) | (simp; done) | (simp; omega)))))).mono ?_; (rintro e w1 ⟨rfl, hb1⟩; obtain ⟨hc1, hf1⟩ := bcell hb1; have zs1 := hb1.size; (try simp at zs1); have n1_0 : w.heap.size < w1.heap.size := (by omega)); (have d0 := (fun j => (hc1 w.heap.size j (by first | omega | (simp; done) | (simp; omega))).trans ((al1_0 rfl).2.1 j))); (have B1 : Below w.heap.size w w1 := (by (repeat first | with_reducible assumption | with_reducible exact Below.refl _ _ | (with_reducible refine Below.alloc ?_ ?side _; case side => (first | omega | (with_reducible exact Below.size (by assumption)) | (simp; done) | (simp; omega))) | (with_reducible refine Below.setCell ?_ ?side _; case side => (first | omega | (with_reducible exact Below.size (by assumption)) | (simp; done) | (simp; omega))) | with_reducible refine Below.drew ?_ | with_reducible refine below_drewN ?_ _ | (with_reducible refine below_step (by assumption) ?side ?_; case side => (first | omega | (with_reducible exact Below.size (by assumption)) | (simp; done) | (simp; omega)))))); clear hc1 hf1) | (go_at_call 52; refine (hwc.out _).mono ?_; rintro e w' ⟨rfl, rfl⟩))
  have own0 : Hid ((w1.alloc (.cells #[.int .i64 0, .int .i64 9999] 3)).ownsRow w1.heap.size 3 1 (.slice (some ⟨w1.heap.size, 0, none⟩) 2 2) (nds ls 0).length ((nds ls 0).flatMap encI)) :=
    ⟨rfl, .inr ⟨w1.heap.size, 2, #[.int .i64 0, .int .i64 9999], rfl, Nat.le_refl _, World.alloc_heap_new _ _, Nat.le_refl _, by decide, rfl, rfl⟩⟩
  have z1 := B1.size
  have D0 := Lib.hid d0
  clear d0
  go_loopw [7, 8] (fun v i (wr : World) => ∃ k : Nat, k ≤ n ∧ i = .int .i64 k ∧ Hid (wr.ownsRow w1.heap.size 3 1 v (nds ls k).length ((nds ls k).flatMap encI)) ∧ Below w1.heap.size w1 wr) (fun _ i _ => n - (intOf i).toNat)
  case atStart => exact ⟨0, by omega, rfl, own0, by (repeat first | with_reducible assumption | with_reducible exact Below.refl _ _ | (with_reducible refine Below.alloc ?_ ?side _; case side => (first | omega | (with_reducible exact Below.size (by assumption)) | (simp; done) | (simp; omega))) | (with_reducible refine Below.setCell ?_ ?side _; case side => (first | omega | (with_reducible exact Below.size (by assumption)) | (simp; done) | (simp; omega))) | with_reducible refine Below.drew ?_ | with_reducible refine below_drewN ?_ _ | (with_reducible refine below_step (by assumption) ?side ?_; case side => (first | omega | (with_reducible exact Below.size (by assumption)) | (simp; done) | (simp; omega))))⟩
  case round =>
    obtain ⟨k, hk, rfl, HO, hb⟩ := hrel
    have zb := hb.size
    have dd := fun j => (hb.cell (p := ⟨w.heap.size, j, none⟩) n1_0).trans (D0.out j)
    have nn : w.heap.size < wr.heap.size := by omega
    have hbw : Below w.heap.size w wr := B1.trans (hb.mono z1)
    by_cases hkn : k < n
    · have hknB : decide ((k : Int) < n) = true := by simp; omega
      have HY := Lib.hid (nds_succ (ls := ls) (k := k) (by rw [HLL.out]; exact hkn))
      have hlen := nds_len (ls := ls) (k := k) (by rw [HLL.out]; exact hk)
      obtain ⟨b0, o0, rfl, hb0, y0, y1⟩ := (HLI.out.later hbw).get hkn
      have hb0' : b0 < w.heap.size := by
        obtain ⟨b1, f1, e1, hb1, -⟩ := HLI.out.get hkn
        cases e1
        exact hb1
      obtain ⟨s, hs⟩ : ∃ s, spAt ls k = s := ⟨_, rfl⟩
      rw [hs] at y0 y1 HY
      clear hs
      go_wp2_with fail
      go_region_held3 (fun w' => w'.cell? ⟨w.heap.size, 0, none⟩ = some (.slice (some ⟨b0, o0, none⟩) n c) ∧ w'.cell? ⟨b0, o0 + k * 2, none⟩ = some (.int .i64 s.lo) ∧ w'.cell? ⟨b0, o0 + k * 2 + 1, none⟩ = some (.int .i64 s.hi))
        (first | exact ⟨dd 0, y0, y1⟩ | exact ⟨(kb.cell (p := ⟨w.heap.size, 0, none⟩) n1_0).trans (dd 0), (kb.cell (p := ⟨b0, o0 + k * 2, none⟩) (by show b0 < _; omega)).trans y0, (kb.cell (p := ⟨b0, o0 + k * 2 + 1, none⟩) (by show b0 < _; omega)).trans y1⟩ | go_keep)
        ((refine step_append_T _ (d := (0 : Int)) rfl (.tmp 30) (.tmp 43) _ rfl w1.heap.size _ 1 8 intE encI_len encI_one u7 u7.ownBlock (nds ls k).length (nds ls k) rfl rfl ?_ _ 2 _ [s.lo, s.hi] rfl ?_ ?_ ?_ ?_; (exact own_below HO.out (by (repeat first | with_reducible assumption | with_reducible exact Below.refl _ _ | (with_reducible refine Below.alloc ?_ ?side _; case side => (first | omega | (with_reducible exact Below.size (by assumption)) | (simp; done) | (simp; omega))) | (with_reducible refine Below.setCell ?_ ?side _; case side => (first | omega | (with_reducible exact Below.size (by assumption)) | (simp; done) | (simp; omega))) | with_reducible refine Below.drew ?_ | with_reducible refine below_drewN ?_ _ | (with_reducible refine below_step (by assumption) ?side ?_; case side => (first | omega | (with_reducible exact Below.size (by assumption)) | (simp; done) | (simp; omega)))))); (exact sl_new encI_len (by simp) rfl rfl); (omega); (simp only [World.size_alloc, World.size_drew]; omega); (intro v' w2 hown2 hg2 hat2; have kb : Below w1.heap.size wr w2 := Below.grown (by (repeat first | with_reducible assumption | with_reducible exact Below.refl _ _ | (with_reducible refine Below.alloc ?_ ?side _; case side => (first | omega | (with_reducible exact Below.size (by assumption)) | (simp; done) | (simp; omega))) | (with_reducible refine Below.setCell ?_ ?side _; case side => (first | omega | (with_reducible exact Below.size (by assumption)) | (simp; done) | (simp; omega))) | with_reducible refine Below.drew ?_ | with_reducible refine below_drewN ?_ _ | (with_reducible refine below_step (by assumption) ?side ?_; case side => (first | omega | (with_reducible exact Below.size (by assumption)) | (simp; done) | (simp; omega))))) hg2 (by simp only [World.size_alloc, World.size_drew]; omega) (own_ge HO.out))))
      have e3 : Hid (w2.ownsRow w1.heap.size 3 1 v' (nds ls (k + 1)).length ((nds ls (k + 1)).flatMap encI)) := by
        show World.ownsRow _ _ _ _ _ _ _
        rw [HY.out, List.length_append]; exact hown2
      have hb9 : Below w1.heap.size w1 w2 := hb.trans kb
      clear hg2 hat2 hown2 own0
      go_wp2
      go_roundw
      case rel => exact ⟨k + 1, by omega, by go_num, e3, hb9⟩
      case measure => simp [intOf]; omega
    · obtain rfl : k = n := by omega
      have hknB : decide (((k : Nat) : Int) < k) = false := by simp
      have hlen := nds_len (ls := ls) (k := k) (by rw [HLL.out]; exact hk)
      obtain ⟨A7, c7, rfl, -, hsl⟩ := SlAt.of_own (d := (0 : Int)) encI_len HO.out rfl
      have HI := Lib.hid (ints_iff.2 hsl)
      have hbd : ∀ j, j < (nds ls k).length → 0 ≤ iAt (nds ls k) j ∧ iAt (nds ls k) j ≤ 9999 := fun j hj => by
        rcases (nds_mem HLL.out).1 (iAt_mem hj) with e | hc
        · omega
        · rcases cand_mem.1 hc with e | ⟨i, hi, e⟩
          · omega
          · have := HSP.out.2 i (by have := HLL.out; omega)
            omega
      have HBD := Lib.hid hbd
      have hok : ∀ v, 0 ≤ v ∧ v ≤ 9999 → okB q ls k cuts v = (erS k ls (q.at_ v) == 0 && decide (((plC k ls (q.at_ v)).length : Int) ≤ cuts)) := fun v hv => okB_run (by
        have h := HCK.out
        simp only [ckC, Bool.and_eq_true] at h ⊢
        obtain ⟨⟨h1, -, h3⟩, h4⟩ := h
        exact ⟨⟨h1, wi_true.2 hv, h3⟩, h4⟩)
      have HOK := Lib.hid hok
      obtain ⟨N, hN⟩ : ∃ N, nds ls k = N := ⟨_, rfl⟩
      rw [hN] at HI HBD HEND hlen ⊢
      obtain ⟨m, hm⟩ : ∃ m, N.length = m := ⟨_, rfl⟩
      rw [hm] at HI HBD HEND hlen ⊢
      obtain ⟨wo, rfl⟩ : ∃ wo : World, wo = wr := ⟨_, rfl⟩
      have BO := Lib.hid hbw
      have DO := Lib.hid dd
      have W0 := Lib.hid (Below.refl wo.heap.size wo)
      have SB : Hid (StB (okB q ls k cuts) N 0 (-1)) := .inl ⟨rfl, fun j hj => absurd hj (by omega)⟩
      have hm26 : m ≤ 26 := by omega
      clear hsl hbd hok hN hm HO own0 hb hbw hlen
      go_wp2_with fail
      clear dd
      go_loopw [9, 10, 11, 12, 13] (fun be i _ _ _ (wr : World) => ∃ (j : Nat) (b : Int), j ≤ m ∧ i = .int .i64 j ∧ be = .int .i64 b ∧ Hid (StB (okB q ls k cuts) N j b) ∧ (-1 ≤ b ∧ b ≤ 9999) ∧ Below wo.heap.size wo wr) (fun _ i _ _ _ _ => m - (intOf i).toNat)
      case atStart => exact ⟨0, -1, by omega, rfl, rfl, SB, by omega, Below.refl _ _⟩
      case round =>
        obtain ⟨j, b, hj, rfl, rfl, HSt, hbb, hb⟩ := hrel
        have zr := hb.size
        have dd := fun i => (hb.cell (p := ⟨w.heap.size, i, none⟩) nn).trans (DO.out i)
        have nr : w.heap.size < wr.heap.size := by omega
        by_cases hjm : j < m
        · have hjB : decide ((j : Int) < m) = true := by simp; omega
          obtain ⟨b1, o1, rfl, hb1, x1⟩ := (HI.out.later hb).get hjm
          have hv := HBD.out j hjm
          have HN := Lib.hid (fun h => StB.no HSt.out (p := okB q ls k cuts) (N := N) (k := j) h)
          have HYs := Lib.hid (fun h => StB.yes HSt.out (p := okB q ls k cuts) (N := N) (k := j) h hv.1)
          have hrun := HOK.out _ hv
          obtain ⟨v, hvv⟩ : ∃ v, iAt N j = v := ⟨_, rfl⟩
          rw [hvv] at x1 hv HN HYs hrun
          clear hvv
          go_upto_region 16 with (fail)
          go_name_world Y hY
          have BY : Blk Y wr.heap.size 24 #[.slice A k c, .int .i64 q.need, .int .i64 q.gap, .int .i64 q.doubt, .int .i64 q.joins, .int .i64 q.least] := by rw [← hY]; exact Blk.new _ _ _
          have bY := (al1 hY).1
          have x1Y := (bY.cell (p := ⟨b1, o1 + j, none⟩) hb1).trans x1
          have oY := BY.cell
          have fY := BY.frozen
          have lY := BY.lt
          have HBY := Lib.hid BY
          clear hY x1 BY
          go_upto_region 17 with (fail)
          go_name_world V hV
          have BV : Blk V wr.heap.size 24 #[.slice A k c, .int .i64 v, .int .i64 q.gap, .int .i64 q.doubt, .int .i64 q.joins, .int .i64 q.least] := by
            have h := HBY.out.set_ 1 (.int .i64 v)
            rw [← hV]
            simpa using h
          have bV : Below wo.heap.size wo V := by
            rw [← hV]
            have := hb.trans (bY.mono zr)
            (repeat first | with_reducible assumption | with_reducible exact Below.refl _ _ | (with_reducible refine Below.alloc ?_ ?side _; case side => (first | omega | (with_reducible exact Below.size (by assumption)) | (simp; done) | (simp; omega))) | (with_reducible refine Below.setCell ?_ ?side _; case side => (first | omega | (with_reducible exact Below.size (by assumption)) | (simp; done) | (simp; omega))) | with_reducible refine Below.drew ?_ | with_reducible refine below_drewN ?_ _ | (with_reducible refine below_step (by assumption) ?side ?_; case side => (first | omega | (with_reducible exact Below.size (by assumption)) | (simp; done) | (simp; omega))))
          have x1V : V.cell? ⟨b1, o1 + j, none⟩ = some (.int .i64 v) := by
            rw [← hV]
            exact (World.cell?_setCell_other _ _ _ _ (by intro h; simp only [Addr.mk.injEq] at h; omega)).trans x1Y
          have oV := BV.cell
          have zV := bV.size
          have bwV : Below w.heap.size w V := BO.out.trans (bV.mono (by omega))
          clear hV x1Y oY fY HBY bY
          have hfw : Calls Try.prog 36 #[.agg #[.slice A k c, .int .i64 v, .int .i64 q.gap, .int .i64 q.doubt, .int .i64 q.joins, .int .i64 q.least]] V
              fun e w' => e = .returned (.tuple #[.int .i64 ((plC k ls (q.at_ v)).length : Nat), .int .i64 (erS k ls (q.at_ v))]) ∧ Below V.heap.size V w' := refFewest_c A k c (q.at_ v) ls V hn (HLI.out.later bwV)
          obtain ⟨L, hL⟩ : ∃ L, (plC k ls (q.at_ v)).length = L := ⟨_, rfl⟩
          obtain ⟨z, hz⟩ : ∃ L, erS k ls (q.at_ v) = L := ⟨_, rfl⟩
          rw [hL, hz] at hrun hfw
          have HRU := Lib.hid hrun
          replace hfw := Lib.hid hfw
          clear hL hz hrun BV
          go_wp2_with fail
          refine hfw.out.mono ?_
          rintro e w5 ⟨rfl, hb5⟩
          have B5 : Below wo.heap.size wo w5 := bV.trans (hb5.mono zV)
          have z5 := hb5.size
          have hb1V : b1 < V.heap.size := World.block_lt_of_cell? V _ x1V
          have x15 := (hb5.cell (p := ⟨b1, o1 + j, none⟩) hb1V).trans x1V
          clear hb5 x1V oV
          cases e1 : (z == 0)
          · rw [e1] at HRU
            have HS2 := Lib.hid (HN.out HRU.out)
            go_wp2
            go_roundw
            case rel => exact ⟨j + 1, b, by omega, by go_num, rfl, HS2, hbb, B5⟩
            case measure => simp [intOf]; omega
          · cases e2 : decide ((L : Int) ≤ cuts)
            · rw [e1, e2] at HRU
              have HS2 := Lib.hid (HN.out HRU.out)
              go_wp2
              go_roundw
              case rel => exact ⟨j + 1, b, by omega, by go_num, rfl, HS2, hbb, B5⟩
              case measure => simp [intOf]; omega
            · rw [e1, e2] at HRU
              have HS2 := Lib.hid (HYs.out HRU.out)
              go_wp2
              go_roundw
              case rel => exact ⟨j + 1, max b v, by omega, by go_num, rfl, HS2, by omega, B5⟩
              case measure => simp [intOf]; omega
        · obtain rfl : j = m := by omega
          have hjB : decide (((j : Nat) : Int) < j) = false := by simp
          rcases HEND.out b HSt.out with ⟨rfl, e⟩ | ⟨hb0, e⟩
          · have HE := Lib.hid e
            clear e
            go_wp2_with fail
            exact bodyPost_ret (v := .tuple #[.int .i64 0, .int .i64 3]) (by simp [results, Try.results24, go_sem]) rfl ⟨by rw [HE.out], BO.out.trans (hb.mono (by have := BO.out.size; omega))⟩
          · have HE := Lib.hid e
            have hbB : decide (b < 0) = false := by simp; omega
            clear e
            go_wp2_with fail
            exact bodyPost_ret (v := .tuple #[.int .i64 b, .int .i64 0]) (by simp [results, Try.results24, go_sem]) rfl ⟨by rw [HE.out], BO.out.trans (hb.mono (by have := BO.out.size; omega))⟩

end Go.Proofs.Ythjjakhmbgnnnaa
