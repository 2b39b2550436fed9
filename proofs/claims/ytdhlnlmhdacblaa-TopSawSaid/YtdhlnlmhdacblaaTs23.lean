/- all of the specification (layer 1). -/
import Derived.Test.YtdhlnlmhdacblaaTs20
import Derived.Test.YtdhlnlmhdacblaaTs21
import Derived.Test.YtdhlnlmhdacblaaTs22
import Derived.Handy
namespace Go.Proofs.Ytdhlnlmhdacblaa
open Go.RowKit
open Go.Sort (grow)
set_option linter.unusedVariables false
set_option linter.unusedSimpArgs false

theorem slcE1 : ElemT Try.prog 70 36 1 24 := by
  obtain ⟨i0, hi0, hz0, hz1, hz2⟩ := info_parts (P := Try.prog) (show (Try.prog.info? 36).map (fun i => (i.zero, i.size, i.bytes)) = some (some (.slice none 0 0), 1, 24) by kernel_rfl)
  exact ⟨Try.underlying70, ⟨i0, _, hi0, hz0, hz1, hz2, rfl⟩, by omega, by omega⟩
/-- what all hands back: a slice of sawings, each made by the call itself or the one that came in -/
def AllRet (As : Option Addr) (L : List (List Nat)) (w : World) (e : Ending) (w' : World) : Prop :=
  ∃ A c hs, e = .returned (.slice A L.length c) ∧ SsAt w' A L.length hs (L.map toI) ∧ (∀ k, k < L.length → ∀ a, (hAt hs k).A = some a → w.heap.size ≤ a.block ∨ As = some a) ∧ Below w.heap.size w w'
section
variable (Ab Ap : Option Addr) (nb cb np cp : Nat) (kf wrg : Int) (bs : List Br) (ms : List Pm) (ps : List Pc)
set_option maxRecDepth 100000 in
set_option maxHeartbeats 3200000 in
theorem refall_no (As : Option Addr) (ns cs p : Nat) (l : List Nat) (w : World) (e0 : allF bs ps kf p l = [])
    (hft : Hid (∀ V, Below w.heap.size w V → Calls Try.prog 85 #[.agg #[.slice Ab nb cb, .int .i64 kf, .slice Ap np cp, .int .i64 wrg], .slice As ns cs] V fun e V' => e = .returned (.bool false) ∧ Below V.heap.size V V')) :
    Calls Try.prog 68 #[.agg #[.slice Ab nb cb, .int .i64 kf, .slice Ap np cp, .int .i64 wrg], .slice As ns cs] w (AllRet As (allF bs ps kf p l) w) := by
  rw [e0]
  clear e0
  go_enter Try.func68, Try.ntmps68
  go_wp2_with fail
  obtain ⟨W, hW⟩ : ∃ W, w.alloc (.cells #[.slice (Ab) nb cb, .int .i64 kf, .slice (Ap) np cp, .int .i64 wrg] 25) = W := ⟨_, rfl⟩
  have B0 : Below w.heap.size w W := by rw [← hW]; exact (Below.refl _ _).alloc (Nat.le_refl _) _
  have c0 := Lib.hid (al1_0 hW).2.1
  have l0 := (al1_0 hW).1
  rw [hW]
  clear hW
  have zW := B0.size
  refine (hft.out _ B0).mono ?_
  rintro e w1 ⟨rfl, hb1⟩
  have z1 := hb1.size
  have B1 : Below w.heap.size w w1 := B0.trans (hb1.mono zW)
  have c1 := fun j => (hb1.cell (p := ⟨w.heap.size, j, none⟩) l0).trans (c0.out j)
  go_wp2_with fail
  exact bodyPost_ret (v := .slice none 0 0) (by simp [results, Try.results68, go_sem]) rfl ⟨none, 0, [], rfl, SsAt.nil _, fun k hk => absurd hk (by simp), by (repeat first | with_reducible assumption | with_reducible exact Below.refl _ _ | (with_reducible refine Below.alloc ?_ ?side _; case side => (first | omega | (with_reducible exact Below.size (by assumption)) | (simp; done) | (simp; omega))) | (with_reducible refine Below.setCell ?_ ?side _; case side => (first | omega | (with_reducible exact Below.size (by assumption)) | (simp; done) | (simp; omega))) | with_reducible refine Below.drew ?_ | with_reducible refine below_drewN ?_ _ | (with_reducible refine below_step (by assumption) ?side ?_; case side => (first | omega | (with_reducible exact Below.size (by assumption)) | (simp; done) | (simp; omega))))⟩
set_option maxRecDepth 100000 in
set_option maxHeartbeats 3200000 in
theorem refall_0 (As : Option Addr) (cs : Nat) (l : List Nat) (w : World) (h2 : np ≤ 40) (hll : l.length = np) (HS : IntsAt w As np (toI l)) (hA : ∀ a, As = some a → a.block < w.heap.size) (e0 : allF bs ps kf 0 l = [l])
    (hft : Hid (∀ V, Below w.heap.size w V → Calls Try.prog 85 #[.agg #[.slice Ab nb cb, .int .i64 kf, .slice Ap np cp, .int .i64 wrg], .slice As np cs] V fun e V' => e = .returned (.bool true) ∧ Below V.heap.size V V')) :
    Calls Try.prog 68 #[.agg #[.slice Ab nb cb, .int .i64 kf, .slice Ap np cp, .int .i64 wrg], .slice As np cs] w (AllRet As (allF bs ps kf 0 l) w) := by
  rw [e0]
  have HSI := Lib.hid HS
  have HA := Lib.hid hA
  clear e0 HS hA
  have eB : ((np : Int) == (np : Int)) = true := by simp
  go_enter Try.func68, Try.ntmps68
  go_wp2_with fail
  obtain ⟨W, hW⟩ : ∃ W, w.alloc (.cells #[.slice (Ab) nb cb, .int .i64 kf, .slice (Ap) np cp, .int .i64 wrg] 25) = W := ⟨_, rfl⟩
  have B0 : Below w.heap.size w W := by rw [← hW]; exact (Below.refl _ _).alloc (Nat.le_refl _) _
  have c0 := Lib.hid (al1_0 hW).2.1
  have l0 := (al1_0 hW).1
  rw [hW]
  clear hW
  have zW := B0.size
  refine (hft.out _ B0).mono ?_
  rintro e w1 ⟨rfl, hb1⟩
  have z1 := hb1.size
  have B1 : Below w.heap.size w w1 := B0.trans (hb1.mono zW)
  have c1 := fun j => (hb1.cell (p := ⟨w.heap.size, j, none⟩) l0).trans (c0.out j)
  go_wp2_with fail
  have hI := HSI.out.later B1
  have hsl := sl_new (d := (⟨none, 0, 0⟩ : Hd)) encH_len (w := w1) (cs := #[.slice As np cs]) (e := 36) (ys := [⟨As, np, cs⟩]) (g := w1.heap.size) (m := 1) rfl rfl rfl
  refine bodyPost_ret (v := .slice (some ⟨w1.heap.size, 0, none⟩) 1 1) (by simp [results, Try.results68, go_sem]) rfl ⟨_, 1, [⟨As, np, cs⟩], rfl, ⟨hsl, rfl, fun k hk => ?_, fun k hk a ha => ?_⟩, fun k hk a ha => ?_, by (repeat first | with_reducible assumption | with_reducible exact Below.refl _ _ | (with_reducible refine Below.alloc ?_ ?side _; case side => (first | omega | (with_reducible exact Below.size (by assumption)) | (simp; done) | (simp; omega))) | (with_reducible refine Below.setCell ?_ ?side _; case side => (first | omega | (with_reducible exact Below.size (by assumption)) | (simp; done) | (simp; omega))) | with_reducible refine Below.drew ?_ | with_reducible refine below_drewN ?_ _ | (with_reducible refine below_step (by assumption) ?side ?_; case side => (first | omega | (with_reducible exact Below.size (by assumption)) | (simp; done) | (simp; omega))))⟩
  · obtain rfl : k = 0 := by simpa using hk
    exact hI.later (by (repeat first | with_reducible assumption | with_reducible exact Below.refl _ _ | (with_reducible refine Below.alloc ?_ ?side _; case side => (first | omega | (with_reducible exact Below.size (by assumption)) | (simp; done) | (simp; omega))) | (with_reducible refine Below.setCell ?_ ?side _; case side => (first | omega | (with_reducible exact Below.size (by assumption)) | (simp; done) | (simp; omega))) | with_reducible refine Below.drew ?_ | with_reducible refine below_drewN ?_ _ | (with_reducible refine below_step (by assumption) ?side ?_; case side => (first | omega | (with_reducible exact Below.size (by assumption)) | (simp; done) | (simp; omega)))))
  · obtain rfl : k = 0 := by simpa using hk
    have := HA.out a ha
    have := B1.size
    simp; omega
  · obtain rfl : k = 0 := by simpa using hk
    exact .inr ha

set_option maxRecDepth 100000 in
set_option maxHeartbeats 3200000 in
theorem refall_s (p : Nat) (As : Option Addr) (ns cs : Nat) (l : List Nat) (w : World) (hn4 : nb ≤ 4) (hp5 : np ≤ 5) (hbl : bs.length = nb) (hll : l.length = ns) (hnp : ns + (p + 1) = np) (HS : IntsAt w As ns (toI l))
    (ih : Hid (∀ (A : Option Addr) (c k : Nat) V, k < nb → Below w.heap.size w V → IntsAt V A (ns + 1) (toI (l ++ [k])) → (∀ a, A = some a → a.block < V.heap.size) → Calls Try.prog 68 #[.agg #[.slice Ab nb cb, .int .i64 kf, .slice Ap np cp, .int .i64 wrg], .slice A (ns + 1) c] V (AllRet A (allF bs ps kf p (l ++ [k])) V)))
    (hft : Hid (∀ V, Below w.heap.size w V → Calls Try.prog 85 #[.agg #[.slice Ab nb cb, .int .i64 kf, .slice Ap np cp, .int .i64 wrg], .slice As ns cs] V fun e V' => e = .returned (.bool true) ∧ Below V.heap.size V V')) :
    Calls Try.prog 68 #[.agg #[.slice Ab nb cb, .int .i64 kf, .slice Ap np cp, .int .i64 wrg], .slice As ns cs] w (AllRet As (allF bs ps kf (p + 1) l) w) := by
  rw [allF_succ, hbl]
  have HLE := Lib.hid (fun k (hk : k ≤ 4) => Nat.le_trans (allK_le (bs := bs) (ps := ps) (kf := kf) (p := p) (l := l) (k := k) (by omega) hk) (Nat.le_trans (Nat.pow_le_pow_right (by omega) (show p + 1 ≤ 5 by omega)) (by decide : 4 ^ 5 ≤ 1024)))
  have HLF := Lib.hid (fun m => Nat.le_trans (allF_le (bs := bs) (ps := ps) (kf := kf) (p := p) (l := m) (by omega)) (Nat.le_trans (Nat.pow_le_pow_right (by omega) (show p ≤ 5 by omega)) (by decide : 4 ^ 5 ≤ 1024)))
  have HSI := Lib.hid HS
  have eB : ((ns : Int) == (np : Int)) = false := by rw [beq_eq_false_iff_ne]; omega
  clear HS hbl
  go_enter Try.func68, Try.ntmps68
  go_wp2_with fail
  obtain ⟨W, hW⟩ : ∃ W, w.alloc (.cells #[.slice (Ab) nb cb, .int .i64 kf, .slice (Ap) np cp, .int .i64 wrg] 25) = W := ⟨_, rfl⟩
  have B0 : Below w.heap.size w W := by rw [← hW]; exact (Below.refl _ _).alloc (Nat.le_refl _) _
  have c0 := Lib.hid (al1_0 hW).2.1
  have l0 := (al1_0 hW).1
  rw [hW]
  clear hW
  have zW := B0.size
  refine (hft.out _ B0).mono ?_
  rintro e w1 ⟨rfl, hb1⟩
  have z1 := hb1.size
  have B1 : Below w.heap.size w w1 := B0.trans (hb1.mono zW)
  have c1 := fun j => (hb1.cell (p := ⟨w.heap.size, j, none⟩) l0).trans (c0.out j)
  have C1 := Lib.hid c1
  go_wp2_with fail
  clear c1
  have own0 := Lib.hid (OwnSs.nil w1 w1.heap.size 36)
  go_loopw [5, 6] (fun v i (wr : World) => ∃ (k : Nat) (hs : List Hd), k ≤ nb ∧ i = .int .i64 k ∧ Hid (OwnSs w1.heap.size 36 wr v (allK bs ps kf p l k).length hs ((allK bs ps kf p l k).map toI)) ∧ Hid (∀ j, j < (allK bs ps kf p l k).length → ∀ a, (hAt hs j).A = some a → w1.heap.size ≤ a.block) ∧ Below w1.heap.size w1 wr) (fun _ i _ => nb - (intOf i).toNat)
  case atStart => exact ⟨0, [], by omega, rfl, own0, Lib.hid (fun j hj => absurd hj (by simp [allK])), Below.refl _ _⟩
  case round =>
    obtain ⟨k, hs, hk, rfl, HO, HN, hb⟩ := hrel
    have zb := hb.size
    have l1 : w.heap.size < w1.heap.size := by omega
    have cc := fun j => (hb.cell (p := ⟨w.heap.size, j, none⟩) l1).trans (C1.out j)
    have hbw : Below w.heap.size w wr := B1.trans (hb.mono (by omega))
    by_cases hlt : k < nb
    · have hqB : decide ((k : Int) < nb) = true := by simp; omega
      have HS : Hid (∀ W', Below w1.heap.size wr W' → ∀ j, W'.cell? ⟨w.heap.size, j, none⟩ = #[Value.slice Ab nb cb, .int .i64 kf, .slice Ap np cp, .int .i64 wrg][j]?) := Lib.hid fun W' h j => (h.cell (p := ⟨w.heap.size, j, none⟩) l1).trans (cc j)
      have HK1 := Lib.hid (allK_succ (bs := bs) (ps := ps) (kf := kf) (p := p) (l := l) (k := k))
      have ihk := Lib.hid (fun A c V hV => ih.out A c k V hlt hV)
      have hle1 := HLE.out k (by omega)
      have hle2 := HLF.out (l ++ [k])
      obtain ⟨LK, hLK⟩ : ∃ L, allK bs ps kf p l k = L := ⟨_, rfl⟩
      obtain ⟨LN, hLN⟩ : ∃ L, allF bs ps kf p (l ++ [k]) = L := ⟨_, rfl⟩
      rw [hLK] at HO HN HK1 hle1
      rw [hLN] at HK1 ihk hle2
      obtain ⟨n1, hn1⟩ : ∃ n, LK.length = n := ⟨_, rfl⟩
      obtain ⟨n2, hn2⟩ : ∃ n, LN.length = n := ⟨_, rfl⟩
      rw [hn1] at HO HN hle1
      have HN1 := Lib.hid hn1
      have HN2 := Lib.hid hn2
      clear hLK hLN hn1
      have hS := HS.out wr.drew (by (repeat first | with_reducible assumption | with_reducible exact Below.refl _ _ | (with_reducible refine Below.alloc ?_ ?side _; case side => (first | omega | (with_reducible exact Below.size (by assumption)) | (simp; done) | (simp; omega))) | (with_reducible refine Below.setCell ?_ ?side _; case side => (first | omega | (with_reducible exact Below.size (by assumption)) | (simp; done) | (simp; omega))) | with_reducible refine Below.drew ?_ | with_reducible refine below_drewN ?_ _ | (with_reducible refine below_step (by assumption) ?side ?_; case side => (first | omega | (with_reducible exact Below.size (by assumption)) | (simp; done) | (simp; omega)))))
      go_upto_region 9 with (fail)
      clear cc
      refine wp_region_L (by kernel_rfl) (fun W' => ∀ j, W'.cell? ⟨w.heap.size, j, none⟩ = #[Value.slice Ab nb cb, .int .i64 kf, .slice Ap np cp, .int .i64 wrg][j]?) 10 ?_
      refine wpAnyL_take (i := 0) (v := ?_) rfl (by kernel_rfl) (by kernel_rfl) (by kernel_rfl) (by kernel_rfl) (fun _ _ _ h => h) hS (Or.inl ⟨by rfl, ?_⟩) ?_
      rotate_left 1
      · intro w9 hw9
        have k0 := hw9
        go_simp
        try with_reducible rfl
      simp only [List.getElem_toArray, List.getElem_cons_zero, Act.put, List.setIfInBounds_toArray, List.set_cons_zero, List.set_cons_succ]
      refine wpAnyL_take (i := 1) (v := ?_) rfl (by kernel_rfl) (by kernel_rfl) (by kernel_rfl) (by kernel_rfl) (fun _ _ _ h => h) hS (Or.inl ⟨by rfl, ?_⟩) ?_
      rotate_left 1
      · intro w9 hw9
        have k0 := hw9
        go_simp
        try with_reducible rfl
      try simp only [List.getElem_toArray, List.getElem_cons_zero, List.getElem_cons_succ, Act.put, List.setIfInBounds_toArray, List.set_cons_zero, List.set_cons_succ]
      refine wpAnyL_take (i := 3) (v := ?_) rfl (by kernel_rfl) (by kernel_rfl) (by kernel_rfl) (by kernel_rfl) (fun _ _ _ h => h) hS (Or.inl ⟨by rfl, ?_⟩) ?_
      rotate_left 1
      · intro w9 hw9
        have k0 := hw9
        go_simp
        try with_reducible rfl
      try simp only [List.getElem_toArray, List.getElem_cons_zero, List.getElem_cons_succ, Act.put, List.setIfInBounds_toArray, List.set_cons_zero, List.set_cons_succ]
      refine wpAnyL_take (i := 5) (v := ?_) rfl (by kernel_rfl) (by kernel_rfl) (by kernel_rfl) (by kernel_rfl) (fun _ _ _ h => h) hS (Or.inl ⟨by rfl, ?_⟩) ?_
      rotate_left 1
      · intro w9 hw9
        have k0 := hw9
        go_simp
        try with_reducible rfl
      try simp only [List.getElem_toArray, List.getElem_cons_zero, List.getElem_cons_succ, Act.put, List.setIfInBounds_toArray, List.set_cons_zero, List.set_cons_succ]
      refine wpAnyL_two (i := 2) (j := 6) (by kernel_rfl) rfl rfl (fun K hK => ?_) (fun K hK => ?_)
      · go_simp
        refine hK.out _ _ (fun _ => HS.out _ (by (repeat first | with_reducible assumption | with_reducible exact Below.refl _ _ | (with_reducible refine Below.alloc ?_ ?side _; case side => (first | omega | (with_reducible exact Below.size (by assumption)) | (simp; done) | (simp; omega))) | (with_reducible refine Below.setCell ?_ ?side _; case side => (first | omega | (with_reducible exact Below.size (by assumption)) | (simp; done) | (simp; omega))) | with_reducible refine Below.drew ?_ | with_reducible refine below_drewN ?_ _ | (with_reducible refine below_step (by assumption) ?side ?_; case side => (first | omega | (with_reducible exact Below.size (by assumption)) | (simp; done) | (simp; omega)))))) (fun hS' => ?_)
        clear hK K hS'
        refine wpAnyL_two (i := 4) (j := 6) (by kernel_rfl) rfl rfl (fun K hK => ?_) (fun K hK => ?_)
        · skip
          refine step_append_T _ (d := (0 : Int)) rfl (.tmp 28) (.tmp 29) _ rfl wr.heap.size _ 1 8 intE encI_len encI_one (.slice (some ⟨wr.heap.size, 0, none⟩) 0 0) (some (wr.heap.size)) 0 [] rfl rfl (own_empty (w := wr.drew) (by go_size) rfl) As ns cs (toI l) rfl (ints_iff.1 (HSI.out.later (hbw.trans (by have := hbw.size; (repeat first | with_reducible assumption | with_reducible exact Below.refl _ _ | (with_reducible refine Below.alloc ?_ ?side _; case side => (first | omega | (with_reducible exact Below.size (by assumption)) | (simp; done) | (simp; omega))) | (with_reducible refine Below.setCell ?_ ?side _; case side => (first | omega | (with_reducible exact Below.size (by assumption)) | (simp; done) | (simp; omega))) | with_reducible refine Below.drew ?_ | with_reducible refine below_drewN ?_ _ | (with_reducible refine below_step (by assumption) ?side ?_; case side => (first | omega | (with_reducible exact Below.size (by assumption)) | (simp; done) | (simp; omega)))))))) (by omega) (by go_size) (fun v9 w9 ho9 hg9 ha9 => ?_)
          rw [Nat.zero_add, List.nil_append] at ho9
          obtain ⟨A9, c9, rfl, -, hs9⟩ := SlAt.of_own (d := (0 : Int)) encI_len ho9 (by rw [toI_len]; exact hll)
          have hb9 : Below wr.heap.size wr w9 := Below.grown (by (repeat first | with_reducible assumption | with_reducible exact Below.refl _ _ | (with_reducible refine Below.alloc ?_ ?side _; case side => (first | omega | (with_reducible exact Below.size (by assumption)) | (simp; done) | (simp; omega))) | (with_reducible refine Below.setCell ?_ ?side _; case side => (first | omega | (with_reducible exact Below.size (by assumption)) | (simp; done) | (simp; omega))) | with_reducible refine Below.drew ?_ | with_reducible refine below_drewN ?_ _ | (with_reducible refine below_step (by assumption) ?side ?_; case side => (first | omega | (with_reducible exact Below.size (by assumption)) | (simp; done) | (simp; omega))))) hg9 (by go_size) (fun g hg => by cases hg; first | exact Nat.le_refl _ | omega)
          refine hK.out _ _ (fun _ => HS.out w9 (hb9.mono zb)) (fun hS' => ?_)
          clear hK K hS' hg9 ha9 hs9
          have z9 := hb9.size
          have HO9 := Lib.hid ho9
          clear ho9
          try simp only [List.getElem_toArray, List.getElem_cons_zero, List.getElem_cons_succ, Act.put, List.setIfInBounds_toArray, List.set_cons_zero, List.set_cons_succ]
          refine wpAnyL_one (i := 6) (by kernel_rfl) rfl (fun K hK => ?_)
          go_simp
          obtain ⟨Wc, hWc⟩ : ∃ Z, w9.alloc (.cells #[.int .i64 k] 3) = Z := ⟨_, rfl⟩
          rw [hWc]
          have bWc : Below w9.heap.size w9 Wc := (al1 hWc).1
          have hbc : Below wr.heap.size wr Wc := hb9.trans (bWc.mono z9)
          have HOc := Lib.hid (own_below HO9.out bWc)
          have HGc : Hid (SlAt encI 1 0 Wc (some ⟨w9.heap.size, 0, none⟩) 1 [(k : Int)]) := Lib.hid (by rw [← hWc]; exact sl_new encI_len rfl rfl rfl)
          obtain ⟨gg, hgg⟩ : ∃ g, w9.heap.size = g := ⟨_, rfl⟩
          rw [hgg] at HGc ⊢
          refine hK.out _ _ (fun _ => HS.out Wc (hbc.mono zb)) (fun hS' => ?_)
          clear hK K hS' hWc hgg bWc HO9
          refine wpAnyL_one (i := 7) (by kernel_rfl) rfl (fun K hK => ?_)
          refine step_append_T _ (d := (0 : Int)) rfl (.tmp 30) (.tmp 32) _ rfl wr.heap.size _ 1 8 intE encI_len encI_one (.slice A9 ns c9) ((Value.slice A9 ns c9).ownBlock) ns (toI l) rfl rfl HOc.out (some ⟨gg, 0, none⟩) 1 1 [(k : Int)] rfl HGc.out (by omega) (by have := hbc.size; omega) (fun v10 w10 ho10 hg10 ha10 => ?_)
          have hl1 : (toI l ++ [(k : Int)]).length = ns + 1 := by simp [toI_len, hll]
          obtain ⟨A10, c10, rfl, -, hs10⟩ := SlAt.of_own (d := (0 : Int)) encI_len ho10 hl1
          have hb10 : Below wr.heap.size Wc w10 := Below.grown (Below.refl _ _) hg10 hbc.size (own_ge HOc.out)
          have hbt : Below wr.heap.size wr w10 := hbc.trans hb10
          have hA10 := Lib.hid (fun a e => own_addr ho10 a e)
          have hI10 : Hid (IntsAt w10 A10 (ns + 1) (toI (l ++ [k]))) := Lib.hid (by rw [show toI (l ++ [k]) = toI l ++ [(k : Int)] by simp [toI]]; exact ints_iff.2 hs10)
          refine hK.out _ _ (fun _ => HS.out w10 (hbt.mono zb)) (fun hS' => ?_)
          clear hK K hS' hg10 ha10 ho10 hs10 hl1 hb10
          try simp only [List.getElem_toArray, List.getElem_cons_zero, List.getElem_cons_succ, Act.put, List.setIfInBounds_toArray, List.set_cons_zero, List.set_cons_succ]
          have zt := hbt.size
          refine wpAnyL_one (i := 8) (by kernel_rfl) rfl (fun K hK => ?_)
          go_simp
          go_at_call 68
          refine (ihk.out A10 c10 w10 (hbw.trans (hbt.mono (by omega))) hI10.out (fun a e => (hA10.out a e).2)).mono ?_
          rintro e w11 ⟨A11, c11, hs11, rfl, hss, hin, hb11⟩
          have hbt11 : Below wr.heap.size wr w11 := hbt.trans (hb11.mono zt)
          refine hK.out _ _ (fun _ => HS.out w11 (hbt11.mono zb)) (fun hS' => ?_)
          clear hK K hS'
          try simp only [List.getElem_toArray, List.getElem_cons_zero, List.getElem_cons_succ, Act.put, List.setIfInBounds_toArray, List.set_cons_zero, List.set_cons_succ]
          have z11 := hb11.size
          have HIN : Hid (∀ j, j < LN.length → ∀ a, (hAt hs11 j).A = some a → wr.heap.size ≤ a.block ∧ a.block < w11.heap.size) := Lib.hid fun j hj a ha => ⟨by
            rcases hin j hj a ha with h | h
            · omega
            · exact (hA10.out a h).1, hss.bd j hj a ha⟩
          refine wpAnyL_one (i := 9) (by kernel_rfl) rfl (fun K hK => ?_)
          refine step_append_T _ (d := (⟨none, 0, 0⟩ : Hd)) rfl (.tmp 26) (.tmp 34) _ rfl w1.heap.size _ 1 24 slcE1 encH_len encH_one u5 u5.ownBlock n1 hs rfl rfl (own_below HO.out.own hbt11) A11 LN.length c11 hs11 rfl hss.sl (by omega) (by omega) (fun v12 w12 ho12 hg12 ha12 => ?_)
          have hb12 : Below w1.heap.size w11 w12 := Below.grown (Below.refl _ _) hg12 (by omega) (own_ge HO.out.own)
          have hbn : Below w1.heap.size wr w12 := (hbt11.mono zb).trans hb12
          have HPU : Hid (OwnSs w1.heap.size 36 w12 v12 (allK bs ps kf p l (k + 1)).length (hs ++ hs11) ((allK bs ps kf p l (k + 1)).map toI)) := Lib.hid (by
            rw [HK1.out, List.length_append, List.map_append, HN1.out]
            exact (HO.out.later hbt11).app hss.sl.1 (by simp) hss.inn (fun j hj a ha => ⟨fun e' => by have h2 := (HO.out.own.lt _ e').2; have h3 := (HIN.out j hj a ha).1; omega, (HIN.out j hj a ha).2⟩) ho12 hg12 ha12)
          have HNN : Hid (∀ j, j < (allK bs ps kf p l (k + 1)).length → ∀ a, (hAt (hs ++ hs11) j).A = some a → w1.heap.size ≤ a.block) := Lib.hid (by
            rw [HK1.out, List.length_append, HN1.out]
            intro j hj a ha
            rcases Nat.lt_or_ge j n1 with h' | h'
            · rw [hAt_lo (by rw [HO.out.hl]; exact h')] at ha
              exact HN.out j h' a ha
            · obtain ⟨i, rfl⟩ := Nat.exists_eq_add_of_le h'
              have e1 := hAt_ge (hs := hs) (hs' := hs11) (k := i)
              rw [HO.out.hl] at e1
              rw [e1] at ha
              have := (HIN.out i (by omega) a ha).1
              omega)
          refine hK.out _ _ (fun _ => HS.out w12 hbn) (fun hS' => ?_)
          clear hK K hS' ho12 hg12 ha12 hin
          try simp only [List.getElem_toArray, List.getElem_cons_zero, List.getElem_cons_succ, Act.put, List.setIfInBounds_toArray, List.set_cons_zero, List.set_cons_succ]
          refine wpAnyL_one (i := 10) (by kernel_rfl) rfl (fun K hK => ?_)
          go_simp
          refine hK.out _ _ (fun h => absurd rfl h) (fun _ => ?_)
          refine wpAnyL_done (by kernel_rfl) ?_ _
          clear hK K
          go_wp2_with fail
          go_roundw
          case rel => exact ⟨k + 1, _, by omega, by go_num, HPU, HNN, hb.trans hbn⟩
          case measure => simp [intOf]; omega
        · go_simp
          have HG0 : Hid (SlAt encI 1 0 ((wr.drew.alloc (.cells #[] 3)).alloc (.cells #[.int .i64 k] 3)) (some ⟨wr.heap.size + 1, 0, none⟩) 1 [(k : Int)]) := Lib.hid (sl_new encI_len (by simp) rfl rfl)
          refine hK.out _ _ (fun _ => HS.out _ (by (repeat first | with_reducible assumption | with_reducible exact Below.refl _ _ | (with_reducible refine Below.alloc ?_ ?side _; case side => (first | omega | (with_reducible exact Below.size (by assumption)) | (simp; done) | (simp; omega))) | (with_reducible refine Below.setCell ?_ ?side _; case side => (first | omega | (with_reducible exact Below.size (by assumption)) | (simp; done) | (simp; omega))) | with_reducible refine Below.drew ?_ | with_reducible refine below_drewN ?_ _ | (with_reducible refine below_step (by assumption) ?side ?_; case side => (first | omega | (with_reducible exact Below.size (by assumption)) | (simp; done) | (simp; omega)))))) (fun hS' => ?_)
          clear hK K hS'
          try simp only [List.getElem_toArray, List.getElem_cons_zero, List.getElem_cons_succ, Act.put, List.setIfInBounds_toArray, List.set_cons_zero, List.set_cons_succ]
          refine wpAnyL_one (i := 4) (by kernel_rfl) rfl (fun K hK => ?_)
          refine step_append_T _ (d := (0 : Int)) rfl (.tmp 28) (.tmp 29) _ rfl wr.heap.size _ 1 8 intE encI_len encI_one (.slice (some ⟨wr.heap.size, 0, none⟩) 0 0) (some (wr.heap.size)) 0 [] rfl rfl ((own_empty (w := wr.drew) (base := wr.heap.size) (by go_size) rfl).alloc _) As ns cs (toI l) rfl (ints_iff.1 (HSI.out.later (hbw.trans (by have := hbw.size; (repeat first | with_reducible assumption | with_reducible exact Below.refl _ _ | (with_reducible refine Below.alloc ?_ ?side _; case side => (first | omega | (with_reducible exact Below.size (by assumption)) | (simp; done) | (simp; omega))) | (with_reducible refine Below.setCell ?_ ?side _; case side => (first | omega | (with_reducible exact Below.size (by assumption)) | (simp; done) | (simp; omega))) | with_reducible refine Below.drew ?_ | with_reducible refine below_drewN ?_ _ | (with_reducible refine below_step (by assumption) ?side ?_; case side => (first | omega | (with_reducible exact Below.size (by assumption)) | (simp; done) | (simp; omega)))))))) (by omega) (by go_size) (fun v9 w9 ho9 hg9 ha9 => ?_)
          rw [Nat.zero_add, List.nil_append] at ho9
          obtain ⟨A9, c9, rfl, -, hs9⟩ := SlAt.of_own (d := (0 : Int)) encI_len ho9 (by rw [toI_len]; exact hll)
          have hb9 : Below wr.heap.size wr w9 := Below.grown (by (repeat first | with_reducible assumption | with_reducible exact Below.refl _ _ | (with_reducible refine Below.alloc ?_ ?side _; case side => (first | omega | (with_reducible exact Below.size (by assumption)) | (simp; done) | (simp; omega))) | (with_reducible refine Below.setCell ?_ ?side _; case side => (first | omega | (with_reducible exact Below.size (by assumption)) | (simp; done) | (simp; omega))) | with_reducible refine Below.drew ?_ | with_reducible refine below_drewN ?_ _ | (with_reducible refine below_step (by assumption) ?side ?_; case side => (first | omega | (with_reducible exact Below.size (by assumption)) | (simp; done) | (simp; omega))))) hg9 (by go_size) (fun g hg => by cases hg; first | exact Nat.le_refl _ | omega)
          refine hK.out _ _ (fun _ => HS.out w9 (hb9.mono zb)) (fun hS' => ?_)
          obtain ⟨Wc, hWc⟩ : ∃ Z, w9 = Z := ⟨_, rfl⟩
          rw [hWc] at hb9 ho9 hg9 ⊢
          have hbc := hb9
          have HOc := Lib.hid ho9
          have HGc : Hid (SlAt encI 1 0 Wc (some ⟨wr.heap.size + 1, 0, none⟩) 1 [(k : Int)]) := Lib.hid (ints_iff.1 (IntsAt.grown (ints_iff.2 HG0.out) hg9 (fun a ha e => by cases ha; have := Option.some.inj e; simp at this)))
          obtain ⟨gg, hgg⟩ : ∃ g, wr.heap.size + 1 = g := ⟨_, rfl⟩
          rw [hgg] at HGc ⊢
          clear hK K hS' hg9 ha9 hs9 hWc hb9 ho9 hgg HG0
          try simp only [List.getElem_toArray, List.getElem_cons_zero, List.getElem_cons_succ, Act.put, List.setIfInBounds_toArray, List.set_cons_zero, List.set_cons_succ]
          refine wpAnyL_one (i := 7) (by kernel_rfl) rfl (fun K hK => ?_)
          refine step_append_T _ (d := (0 : Int)) rfl (.tmp 30) (.tmp 32) _ rfl wr.heap.size _ 1 8 intE encI_len encI_one (.slice A9 ns c9) ((Value.slice A9 ns c9).ownBlock) ns (toI l) rfl rfl HOc.out (some ⟨gg, 0, none⟩) 1 1 [(k : Int)] rfl HGc.out (by omega) (by have := hbc.size; omega) (fun v10 w10 ho10 hg10 ha10 => ?_)
          have hl1 : (toI l ++ [(k : Int)]).length = ns + 1 := by simp [toI_len, hll]
          obtain ⟨A10, c10, rfl, -, hs10⟩ := SlAt.of_own (d := (0 : Int)) encI_len ho10 hl1
          have hb10 : Below wr.heap.size Wc w10 := Below.grown (Below.refl _ _) hg10 hbc.size (own_ge HOc.out)
          have hbt : Below wr.heap.size wr w10 := hbc.trans hb10
          have hA10 := Lib.hid (fun a e => own_addr ho10 a e)
          have hI10 : Hid (IntsAt w10 A10 (ns + 1) (toI (l ++ [k]))) := Lib.hid (by rw [show toI (l ++ [k]) = toI l ++ [(k : Int)] by simp [toI]]; exact ints_iff.2 hs10)
          refine hK.out _ _ (fun _ => HS.out w10 (hbt.mono zb)) (fun hS' => ?_)
          clear hK K hS' hg10 ha10 ho10 hs10 hl1 hb10
          try simp only [List.getElem_toArray, List.getElem_cons_zero, List.getElem_cons_succ, Act.put, List.setIfInBounds_toArray, List.set_cons_zero, List.set_cons_succ]
          have zt := hbt.size
          refine wpAnyL_one (i := 8) (by kernel_rfl) rfl (fun K hK => ?_)
          go_simp
          go_at_call 68
          refine (ihk.out A10 c10 w10 (hbw.trans (hbt.mono (by omega))) hI10.out (fun a e => (hA10.out a e).2)).mono ?_
          rintro e w11 ⟨A11, c11, hs11, rfl, hss, hin, hb11⟩
          have hbt11 : Below wr.heap.size wr w11 := hbt.trans (hb11.mono zt)
          refine hK.out _ _ (fun _ => HS.out w11 (hbt11.mono zb)) (fun hS' => ?_)
          clear hK K hS'
          try simp only [List.getElem_toArray, List.getElem_cons_zero, List.getElem_cons_succ, Act.put, List.setIfInBounds_toArray, List.set_cons_zero, List.set_cons_succ]
          have z11 := hb11.size
          have HIN : Hid (∀ j, j < LN.length → ∀ a, (hAt hs11 j).A = some a → wr.heap.size ≤ a.block ∧ a.block < w11.heap.size) := Lib.hid fun j hj a ha => ⟨by
            rcases hin j hj a ha with h | h
            · omega
            · exact (hA10.out a h).1, hss.bd j hj a ha⟩
          refine wpAnyL_one (i := 9) (by kernel_rfl) rfl (fun K hK => ?_)
          refine step_append_T _ (d := (⟨none, 0, 0⟩ : Hd)) rfl (.tmp 26) (.tmp 34) _ rfl w1.heap.size _ 1 24 slcE1 encH_len encH_one u5 u5.ownBlock n1 hs rfl rfl (own_below HO.out.own hbt11) A11 LN.length c11 hs11 rfl hss.sl (by omega) (by omega) (fun v12 w12 ho12 hg12 ha12 => ?_)
          have hb12 : Below w1.heap.size w11 w12 := Below.grown (Below.refl _ _) hg12 (by omega) (own_ge HO.out.own)
          have hbn : Below w1.heap.size wr w12 := (hbt11.mono zb).trans hb12
          have HPU : Hid (OwnSs w1.heap.size 36 w12 v12 (allK bs ps kf p l (k + 1)).length (hs ++ hs11) ((allK bs ps kf p l (k + 1)).map toI)) := Lib.hid (by
            rw [HK1.out, List.length_append, List.map_append, HN1.out]
            exact (HO.out.later hbt11).app hss.sl.1 (by simp) hss.inn (fun j hj a ha => ⟨fun e' => by have h2 := (HO.out.own.lt _ e').2; have h3 := (HIN.out j hj a ha).1; omega, (HIN.out j hj a ha).2⟩) ho12 hg12 ha12)
          have HNN : Hid (∀ j, j < (allK bs ps kf p l (k + 1)).length → ∀ a, (hAt (hs ++ hs11) j).A = some a → w1.heap.size ≤ a.block) := Lib.hid (by
            rw [HK1.out, List.length_append, HN1.out]
            intro j hj a ha
            rcases Nat.lt_or_ge j n1 with h' | h'
            · rw [hAt_lo (by rw [HO.out.hl]; exact h')] at ha
              exact HN.out j h' a ha
            · obtain ⟨i, rfl⟩ := Nat.exists_eq_add_of_le h'
              have e1 := hAt_ge (hs := hs) (hs' := hs11) (k := i)
              rw [HO.out.hl] at e1
              rw [e1] at ha
              have := (HIN.out i (by omega) a ha).1
              omega)
          refine hK.out _ _ (fun _ => HS.out w12 hbn) (fun hS' => ?_)
          clear hK K hS' ho12 hg12 ha12 hin
          try simp only [List.getElem_toArray, List.getElem_cons_zero, List.getElem_cons_succ, Act.put, List.setIfInBounds_toArray, List.set_cons_zero, List.set_cons_succ]
          refine wpAnyL_one (i := 10) (by kernel_rfl) rfl (fun K hK => ?_)
          go_simp
          refine hK.out _ _ (fun h => absurd rfl h) (fun _ => ?_)
          refine wpAnyL_done (by kernel_rfl) ?_ _
          clear hK K
          go_wp2_with fail
          go_roundw
          case rel => exact ⟨k + 1, _, by omega, by go_num, HPU, HNN, hb.trans hbn⟩
          case measure => simp [intOf]; omega
      · go_simp
        refine hK.out _ _ (fun _ => HS.out _ (by (repeat first | with_reducible assumption | with_reducible exact Below.refl _ _ | (with_reducible refine Below.alloc ?_ ?side _; case side => (first | omega | (with_reducible exact Below.size (by assumption)) | (simp; done) | (simp; omega))) | (with_reducible refine Below.setCell ?_ ?side _; case side => (first | omega | (with_reducible exact Below.size (by assumption)) | (simp; done) | (simp; omega))) | with_reducible refine Below.drew ?_ | with_reducible refine below_drewN ?_ _ | (with_reducible refine below_step (by assumption) ?side ?_; case side => (first | omega | (with_reducible exact Below.size (by assumption)) | (simp; done) | (simp; omega)))))) (fun hS' => ?_)
        clear hK K hS'
        try simp only [List.getElem_toArray, List.getElem_cons_zero, List.getElem_cons_succ, Act.put, List.setIfInBounds_toArray, List.set_cons_zero, List.set_cons_succ]
        have HG0 : Hid (SlAt encI 1 0 (wr.drew.alloc (.cells #[.int .i64 k] 3)) (some ⟨wr.heap.size, 0, none⟩) 1 [(k : Int)]) := Lib.hid (sl_new encI_len rfl rfl rfl)
        refine wpAnyL_one (i := 2) (by kernel_rfl) rfl (fun K hK => ?_)
        go_simp
        refine hK.out _ _ (fun _ => HS.out _ (by (repeat first | with_reducible assumption | with_reducible exact Below.refl _ _ | (with_reducible refine Below.alloc ?_ ?side _; case side => (first | omega | (with_reducible exact Below.size (by assumption)) | (simp; done) | (simp; omega))) | (with_reducible refine Below.setCell ?_ ?side _; case side => (first | omega | (with_reducible exact Below.size (by assumption)) | (simp; done) | (simp; omega))) | with_reducible refine Below.drew ?_ | with_reducible refine below_drewN ?_ _ | (with_reducible refine below_step (by assumption) ?side ?_; case side => (first | omega | (with_reducible exact Below.size (by assumption)) | (simp; done) | (simp; omega)))))) (fun hS' => ?_)
        clear hK K hS'
        try simp only [List.getElem_toArray, List.getElem_cons_zero, List.getElem_cons_succ, Act.put, List.setIfInBounds_toArray, List.set_cons_zero, List.set_cons_succ]
        refine wpAnyL_one (i := 4) (by kernel_rfl) rfl (fun K hK => ?_)
        refine step_append_T _ (d := (0 : Int)) rfl (.tmp 28) (.tmp 29) _ rfl wr.heap.size _ 1 8 intE encI_len encI_one (.slice (some ⟨wr.heap.size + 1, 0, none⟩) 0 0) (some (wr.heap.size + 1)) 0 [] rfl rfl (own_empty (by simp) (by simp)) As ns cs (toI l) rfl (ints_iff.1 (HSI.out.later (hbw.trans (by have := hbw.size; (repeat first | with_reducible assumption | with_reducible exact Below.refl _ _ | (with_reducible refine Below.alloc ?_ ?side _; case side => (first | omega | (with_reducible exact Below.size (by assumption)) | (simp; done) | (simp; omega))) | (with_reducible refine Below.setCell ?_ ?side _; case side => (first | omega | (with_reducible exact Below.size (by assumption)) | (simp; done) | (simp; omega))) | with_reducible refine Below.drew ?_ | with_reducible refine below_drewN ?_ _ | (with_reducible refine below_step (by assumption) ?side ?_; case side => (first | omega | (with_reducible exact Below.size (by assumption)) | (simp; done) | (simp; omega)))))))) (by omega) (by go_size) (fun v9 w9 ho9 hg9 ha9 => ?_)
        rw [Nat.zero_add, List.nil_append] at ho9
        obtain ⟨A9, c9, rfl, -, hs9⟩ := SlAt.of_own (d := (0 : Int)) encI_len ho9 (by rw [toI_len]; exact hll)
        have hb9 : Below wr.heap.size wr w9 := Below.grown (by (repeat first | with_reducible assumption | with_reducible exact Below.refl _ _ | (with_reducible refine Below.alloc ?_ ?side _; case side => (first | omega | (with_reducible exact Below.size (by assumption)) | (simp; done) | (simp; omega))) | (with_reducible refine Below.setCell ?_ ?side _; case side => (first | omega | (with_reducible exact Below.size (by assumption)) | (simp; done) | (simp; omega))) | with_reducible refine Below.drew ?_ | with_reducible refine below_drewN ?_ _ | (with_reducible refine below_step (by assumption) ?side ?_; case side => (first | omega | (with_reducible exact Below.size (by assumption)) | (simp; done) | (simp; omega))))) hg9 (by go_size) (fun g hg => by cases hg; first | exact Nat.le_refl _ | omega)
        refine hK.out _ _ (fun _ => HS.out w9 (hb9.mono zb)) (fun hS' => ?_)
        obtain ⟨Wc, hWc⟩ : ∃ Z, w9 = Z := ⟨_, rfl⟩
        rw [hWc] at hb9 ho9 hg9 ⊢
        have hbc := hb9
        have HOc := Lib.hid ho9
        have HGc : Hid (SlAt encI 1 0 Wc (some ⟨wr.heap.size, 0, none⟩) 1 [(k : Int)]) := Lib.hid (ints_iff.1 (IntsAt.grown ((ints_iff.2 HG0.out).later ((Below.refl _ _).alloc (Nat.le_refl _) _)) hg9 (fun a ha e => by cases ha; have := Option.some.inj e; simp at this)))
        clear hK K hS' hg9 ha9 hs9 hWc hb9 ho9 HG0
        try simp only [List.getElem_toArray, List.getElem_cons_zero, List.getElem_cons_succ, Act.put, List.setIfInBounds_toArray, List.set_cons_zero, List.set_cons_succ]
        refine wpAnyL_one (i := 7) (by kernel_rfl) rfl (fun K hK => ?_)
        refine step_append_T _ (d := (0 : Int)) rfl (.tmp 30) (.tmp 32) _ rfl wr.heap.size _ 1 8 intE encI_len encI_one (.slice A9 ns c9) ((Value.slice A9 ns c9).ownBlock) ns (toI l) rfl rfl HOc.out (some ⟨wr.heap.size, 0, none⟩) 1 1 [(k : Int)] rfl HGc.out (by omega) (by have := hbc.size; omega) (fun v10 w10 ho10 hg10 ha10 => ?_)
        have hl1 : (toI l ++ [(k : Int)]).length = ns + 1 := by simp [toI_len, hll]
        obtain ⟨A10, c10, rfl, -, hs10⟩ := SlAt.of_own (d := (0 : Int)) encI_len ho10 hl1
        have hb10 : Below wr.heap.size Wc w10 := Below.grown (Below.refl _ _) hg10 hbc.size (own_ge HOc.out)
        have hbt : Below wr.heap.size wr w10 := hbc.trans hb10
        have hA10 := Lib.hid (fun a e => own_addr ho10 a e)
        have hI10 : Hid (IntsAt w10 A10 (ns + 1) (toI (l ++ [k]))) := Lib.hid (by rw [show toI (l ++ [k]) = toI l ++ [(k : Int)] by simp [toI]]; exact ints_iff.2 hs10)
        refine hK.out _ _ (fun _ => HS.out w10 (hbt.mono zb)) (fun hS' => ?_)
        clear hK K hS' hg10 ha10 ho10 hs10 hl1 hb10
        try simp only [List.getElem_toArray, List.getElem_cons_zero, List.getElem_cons_succ, Act.put, List.setIfInBounds_toArray, List.set_cons_zero, List.set_cons_succ]
        have zt := hbt.size
        refine wpAnyL_one (i := 8) (by kernel_rfl) rfl (fun K hK => ?_)
        go_simp
        go_at_call 68
        refine (ihk.out A10 c10 w10 (hbw.trans (hbt.mono (by omega))) hI10.out (fun a e => (hA10.out a e).2)).mono ?_
        rintro e w11 ⟨A11, c11, hs11, rfl, hss, hin, hb11⟩
        have hbt11 : Below wr.heap.size wr w11 := hbt.trans (hb11.mono zt)
        refine hK.out _ _ (fun _ => HS.out w11 (hbt11.mono zb)) (fun hS' => ?_)
        clear hK K hS'
        try simp only [List.getElem_toArray, List.getElem_cons_zero, List.getElem_cons_succ, Act.put, List.setIfInBounds_toArray, List.set_cons_zero, List.set_cons_succ]
        have z11 := hb11.size
        have HIN : Hid (∀ j, j < LN.length → ∀ a, (hAt hs11 j).A = some a → wr.heap.size ≤ a.block ∧ a.block < w11.heap.size) := Lib.hid fun j hj a ha => ⟨by
          rcases hin j hj a ha with h | h
          · omega
          · exact (hA10.out a h).1, hss.bd j hj a ha⟩
        refine wpAnyL_one (i := 9) (by kernel_rfl) rfl (fun K hK => ?_)
        refine step_append_T _ (d := (⟨none, 0, 0⟩ : Hd)) rfl (.tmp 26) (.tmp 34) _ rfl w1.heap.size _ 1 24 slcE1 encH_len encH_one u5 u5.ownBlock n1 hs rfl rfl (own_below HO.out.own hbt11) A11 LN.length c11 hs11 rfl hss.sl (by omega) (by omega) (fun v12 w12 ho12 hg12 ha12 => ?_)
        have hb12 : Below w1.heap.size w11 w12 := Below.grown (Below.refl _ _) hg12 (by omega) (own_ge HO.out.own)
        have hbn : Below w1.heap.size wr w12 := (hbt11.mono zb).trans hb12
        have HPU : Hid (OwnSs w1.heap.size 36 w12 v12 (allK bs ps kf p l (k + 1)).length (hs ++ hs11) ((allK bs ps kf p l (k + 1)).map toI)) := Lib.hid (by
          rw [HK1.out, List.length_append, List.map_append, HN1.out]
          exact (HO.out.later hbt11).app hss.sl.1 (by simp) hss.inn (fun j hj a ha => ⟨fun e' => by have h2 := (HO.out.own.lt _ e').2; have h3 := (HIN.out j hj a ha).1; omega, (HIN.out j hj a ha).2⟩) ho12 hg12 ha12)
        have HNN : Hid (∀ j, j < (allK bs ps kf p l (k + 1)).length → ∀ a, (hAt (hs ++ hs11) j).A = some a → w1.heap.size ≤ a.block) := Lib.hid (by
          rw [HK1.out, List.length_append, HN1.out]
          intro j hj a ha
          rcases Nat.lt_or_ge j n1 with h' | h'
          · rw [hAt_lo (by rw [HO.out.hl]; exact h')] at ha
            exact HN.out j h' a ha
          · obtain ⟨i, rfl⟩ := Nat.exists_eq_add_of_le h'
            have e1 := hAt_ge (hs := hs) (hs' := hs11) (k := i)
            rw [HO.out.hl] at e1
            rw [e1] at ha
            have := (HIN.out i (by omega) a ha).1
            omega)
        refine hK.out _ _ (fun _ => HS.out w12 hbn) (fun hS' => ?_)
        clear hK K hS' ho12 hg12 ha12 hin
        try simp only [List.getElem_toArray, List.getElem_cons_zero, List.getElem_cons_succ, Act.put, List.setIfInBounds_toArray, List.set_cons_zero, List.set_cons_succ]
        refine wpAnyL_one (i := 10) (by kernel_rfl) rfl (fun K hK => ?_)
        go_simp
        refine hK.out _ _ (fun h => absurd rfl h) (fun _ => ?_)
        refine wpAnyL_done (by kernel_rfl) ?_ _
        clear hK K
        go_wp2_with fail
        go_roundw
        case rel => exact ⟨k + 1, _, by omega, by go_num, HPU, HNN, hb.trans hbn⟩
        case measure => simp [intOf]; omega
    · obtain rfl : nb = k := by omega
      have hqB : decide (((nb : Nat) : Int) < nb) = false := by simp
      obtain ⟨A3, c3, rfl, hss3⟩ := HO.out.ss
      have HS3 := Lib.hid hss3
      have hzz := hb.size
      clear hss3 HO
      go_wp2_with fail
      exact bodyPost_ret (v := .slice A3 (allK bs ps kf p l nb).length c3) (by simp [results, Try.results68, go_sem]) rfl ⟨A3, c3, hs, rfl, HS3.out, fun j hj a ha => .inl (by have := HN.out j hj a ha; omega), hbw⟩
end

section
variable (Ab Ap : Option Addr) (nb cb np cp : Nat) (kf wrg : Int) (bs : List Br) (ms : List Pm) (ps : List Pc)
/-- all sawings that fit, and that begin with some bars -/
theorem refall_c (hn4 : nb ≤ 4) (hp5 : np ≤ 5) (hck : ckS bs ps kf wrg = true) : ∀ (p : Nat) (As : Option Addr) (ns cs : Nat) (l : List Nat) (w : World), BrsAt w Ab nb bs → PcsAt w Ap np ms ps → IntsAt w As ns (toI l) → (∀ a, As = some a → a.block < w.heap.size) → ns + p = np →
    Calls Try.prog 68 #[.agg #[.slice Ab nb cb, .int .i64 kf, .slice Ap np cp, .int .i64 wrg], .slice As ns cs] w (AllRet As (allF bs ps kf p l) w) := by
  intro p
  induction p with
  | zero =>
    intro As ns cs l w HB HP HS hA hnp
    have hll : l.length = ns := by rw [← toI_len]; exact HS.1
    have hft : ∀ V, Below w.heap.size w V → Calls Try.prog 85 #[.agg #[.slice Ab nb cb, .int .i64 kf, .slice Ap np cp, .int .i64 wrg], .slice As ns cs] V fun e V' => e = .returned (.bool (okB bs ps kf 8 l)) ∧ Below V.heap.size V V' := fun V hV => by
      rw [fit_ok (by omega)]
      exact reffits_c Ab Ap As nb cb np cp ns cs kf wrg bs ms ps l V hck (HB.later hV) (HP.later hV) (HS.later hV) (by omega)
    have hpl := HP.pl
    cases e : okB bs ps kf 8 l
    · rw [e] at hft
      exact refall_no Ab Ap nb cb np cp kf wrg bs ps As ns cs 0 l w (allF_no hck (by omega) e) (Lib.hid hft)
    · rw [e] at hft
      obtain rfl : ns = np := by omega
      exact refall_0 Ab Ap nb cb ns cp kf wrg bs ps As cs l w (by omega) hll HS hA (allF_0 e) (Lib.hid hft)
  | succ p ih =>
    intro As ns cs l w HB HP HS hA hnp
    have hll : l.length = ns := by rw [← toI_len]; exact HS.1
    have hft : ∀ V, Below w.heap.size w V → Calls Try.prog 85 #[.agg #[.slice Ab nb cb, .int .i64 kf, .slice Ap np cp, .int .i64 wrg], .slice As ns cs] V fun e V' => e = .returned (.bool (okB bs ps kf 8 l)) ∧ Below V.heap.size V V' := fun V hV => by
      rw [fit_ok (by omega)]
      exact reffits_c Ab Ap As nb cb np cp ns cs kf wrg bs ms ps l V hck (HB.later hV) (HP.later hV) (HS.later hV) (by omega)
    have hpl := HP.pl
    cases e : okB bs ps kf 8 l
    · rw [e] at hft
      exact refall_no Ab Ap nb cb np cp kf wrg bs ps As ns cs (p + 1) l w (allF_no hck (by omega) e) (Lib.hid hft)
    · rw [e] at hft
      exact refall_s Ab Ap nb cb np cp kf wrg bs ps p As ns cs l w hn4 hp5 HB.1 hll hnp HS (Lib.hid fun A c k V _ hV hI hA' => ih A (ns + 1) c (l ++ [k]) V (HB.later hV) (HP.later hV) hI hA' (by omega)) (Lib.hid hft)
end
def trsL (bs : List Br) (ps : List Pc) (kf wr : Int) (is : Bool) : List (List Nat) := bif askE bs ps kf wr is == 0 then trL bs ps kf wr else []
/-- what truths hands back -/
def TrsRet (L : List (List Nat)) (z : Int) (w : World) (e : Ending) (w' : World) : Prop :=
  ∃ A c hs, e = .returned (.tuple #[.slice A L.length c, .int .i64 z]) ∧ SsAt w' A L.length hs (L.map toI) ∧ Below w.heap.size w w' ∧ (z ≠ 0 → A = none ∧ c = 0) ∧ (∀ h ∈ hs, ∀ a, h.A = some a → w.heap.size ≤ a.block) ∧ ∀ a, A = some a → w.heap.size ≤ a.block
section
variable (Ab Ap : Option Addr) (nb cb np cp : Nat) (kf wrg : Int) (bs : List Br) (ms : List Pm) (ps : List Pc) (w : World)
set_option maxRecDepth 100000 in
set_option maxHeartbeats 3200000 in
theorem reftruths_c (is : Bool) (h1 : nb ≤ 40) (h2 : np ≤ 40) (h3 : ∀ k, k < np → (pcAt ps k).hs.length ≤ 40) (hsm : ckS bs ps kf wrg = true → nb ≤ 4 ∧ np ≤ 5) (HB : BrsAt w Ab nb bs) (HP : PcsAt w Ap np ms ps) :
    Calls Try.prog 42 #[.agg #[.slice Ab nb cb, .int .i64 kf, .slice Ap np cp, .int .i64 wrg], .bool is] w (TrsRet (trsL bs ps kf wrg is) (askE bs ps kf wrg is) w) := by
  have hcc : ∀ V, Below w.heap.size w V → Calls Try.prog 18 #[.agg #[.slice Ab nb cb, .int .i64 kf, .slice Ap np cp, .int .i64 wrg]] V fun e V' => e = .returned (.int .i64 (erS (ckS bs ps kf wrg))) ∧ Below V.heap.size V V' := fun V hV =>
    refCheck_c Ab Ap nb cb np cp kf wrg bs ms ps V h1 h2 h3 (HB.later hV) (HP.later hV)
  cases ek : ckS bs ps kf wrg
  · rw [ek, show erS false = 10 from rfl] at hcc
    have e1 : askE bs ps kf wrg is = 10 := by unfold askE; rw [ek]; rfl
    have e2 : trsL bs ps kf wrg is = [] := by unfold trsL; rw [e1]; rfl
    rw [e1, e2]
    replace hcc := Lib.hid hcc
    clear HB HP ek e1 e2 h3
    go_enter Try.func42, Try.ntmps42
    go_wp2_with fail
    obtain ⟨W, hW⟩ : ∃ W, w.alloc (.cells #[.slice (Ab) nb cb, .int .i64 kf, .slice (Ap) np cp, .int .i64 wrg] 25) = W := ⟨_, rfl⟩
    have B0 : Below w.heap.size w W := by rw [← hW]; exact (Below.refl _ _).alloc (Nat.le_refl _) _
    have c0 := Lib.hid (al1_0 hW).2.1
    have l0 := (al1_0 hW).1
    rw [hW]
    clear hW
    have zW := B0.size
    refine (hcc.out _ B0).mono ?_
    rintro e w1 ⟨rfl, hb1⟩
    have B1 : Below w.heap.size w w1 := B0.trans (hb1.mono zW)
    have c1 := fun j => (hb1.cell (p := ⟨w.heap.size, j, none⟩) l0).trans (c0.out j)
    have z1 := hb1.size
    go_wp2_with fail
    exact bodyPost_ret (v := .tuple #[.slice none 0 0, .int .i64 10]) (by simp [results, Try.results42, go_sem]) rfl ⟨none, 0, [], rfl, SsAt.nil _, by (repeat first | with_reducible assumption | with_reducible exact Below.refl _ _ | (with_reducible refine Below.alloc ?_ ?side _; case side => (first | omega | (with_reducible exact Below.size (by assumption)) | (simp; done) | (simp; omega))) | (with_reducible refine Below.setCell ?_ ?side _; case side => (first | omega | (with_reducible exact Below.size (by assumption)) | (simp; done) | (simp; omega))) | with_reducible refine Below.drew ?_ | with_reducible refine below_drewN ?_ _ | (with_reducible refine below_step (by assumption) ?side ?_; case side => (first | omega | (with_reducible exact Below.size (by assumption)) | (simp; done) | (simp; omega)))), fun _ => ⟨rfl, rfl⟩, (fun h hh => by cases hh), fun a h => by cases h⟩
  rw [ek, show erS true = 0 from rfl] at hcc
  replace hcc := Lib.hid hcc
  cases is
  · have e1 : askE bs ps kf wrg false = 1 := by unfold askE; rw [ek]; rfl
    have e2 : trsL bs ps kf wrg false = [] := by unfold trsL; rw [e1]; rfl
    rw [e1, e2]
    clear HB HP ek e1 e2 h3
    go_enter Try.func42, Try.ntmps42
    go_wp2_with fail
    obtain ⟨W, hW⟩ : ∃ W, w.alloc (.cells #[.slice (Ab) nb cb, .int .i64 kf, .slice (Ap) np cp, .int .i64 wrg] 25) = W := ⟨_, rfl⟩
    have B0 : Below w.heap.size w W := by rw [← hW]; exact (Below.refl _ _).alloc (Nat.le_refl _) _
    have c0 := Lib.hid (al1_0 hW).2.1
    have l0 := (al1_0 hW).1
    rw [hW]
    clear hW
    have zW := B0.size
    refine (hcc.out _ B0).mono ?_
    rintro e w1 ⟨rfl, hb1⟩
    have B1 : Below w.heap.size w w1 := B0.trans (hb1.mono zW)
    have c1 := fun j => (hb1.cell (p := ⟨w.heap.size, j, none⟩) l0).trans (c0.out j)
    have z1 := hb1.size
    go_wp2_with fail
    exact bodyPost_ret (v := .tuple #[.slice none 0 0, .int .i64 1]) (by simp [results, Try.results42, go_sem]) rfl ⟨none, 0, [], rfl, SsAt.nil _, by (repeat first | with_reducible assumption | with_reducible exact Below.refl _ _ | (with_reducible refine Below.alloc ?_ ?side _; case side => (first | omega | (with_reducible exact Below.size (by assumption)) | (simp; done) | (simp; omega))) | (with_reducible refine Below.setCell ?_ ?side _; case side => (first | omega | (with_reducible exact Below.size (by assumption)) | (simp; done) | (simp; omega))) | with_reducible refine Below.drew ?_ | with_reducible refine below_drewN ?_ _ | (with_reducible refine below_step (by assumption) ?side ?_; case side => (first | omega | (with_reducible exact Below.size (by assumption)) | (simp; done) | (simp; omega)))), fun _ => ⟨rfl, rfl⟩, (fun h hh => by cases hh), fun a h => by cases h⟩
  obtain ⟨hn4, hp5⟩ := hsm ek
  have hbl := HB.1
  have hpl := HP.pl
  have hv := ckS_vals ek
  have e1 := askE_ok ek
  have e2 : trsL bs ps kf wrg true = trL bs ps kf wrg := by
    unfold trsL
    rw [e1]
    by_cases e : trL bs ps kf wrg = []
    · rw [if_pos e, e]; rfl
    · rw [if_neg e]; rfl
  rw [e1, e2]
  have hall : ∀ V, Below w.heap.size w V → Calls Try.prog 68 #[.agg #[.slice Ab nb cb, .int .i64 kf, .slice Ap np cp, .int .i64 wrg], .slice none 0 0] V (AllRet none (trL bs ps kf 8) V) := fun V hV => by
    rw [← allF_tr, hpl]
    exact refall_c Ab Ap nb cb np cp kf wrg bs ms ps hn4 hp5 ek np none 0 0 [] V (HB.later hV) (HP.later hV) ⟨rfl, fun h => absurd h (by omega)⟩ (fun a h => by cases h) (by omega)
  have hwr : ∀ (A : Option Addr) (c : Nat) (l : List Nat) V, l ∈ trL bs ps kf 8 → Below w.heap.size w V → IntsAt V A l.length (toI l) → Calls Try.prog 69 #[.agg #[.slice Ab nb cb, .int .i64 kf, .slice Ap np cp, .int .i64 wrg], .slice A l.length c] V fun e V' => e = .returned (.int .i64 (wgB bs ps l : Nat)) ∧ Below V.heap.size V V' := fun A c l V hl hV hI => by
    obtain ⟨⟨k1, k2⟩, -⟩ := trL_mem.1 hl
    rw [hbl] at k2
    exact refWrongs_c Ab Ap A nb cb np cp l.length c kf wrg bs ms ps l V h2 k2 h3 (HB.later hV) (HP.later hV) hI (by omega)
  have hle := trL_le (bs := bs) (ps := ps) (kf := kf) (wr := 8) (by omega) (by omega)
  have hta := trK_all (bs := bs) (ps := ps) (kf := kf) (wr := wrg) hv.2.2.2.1.2
  have HTS := Lib.hid (fun k => trK_succ (bs := bs) (ps := ps) (kf := kf) (wr := wrg) (k := k))
  have HTL := Lib.hid (fun k => trK_len (bs := bs) (ps := ps) (kf := kf) (wr := wrg) (k := k))
  obtain ⟨T, hT⟩ : ∃ T, trL bs ps kf 8 = T := ⟨_, rfl⟩
  rw [hT] at hall hwr hle hta HTS
  rw [← hta]
  replace hall := Lib.hid hall
  replace hwr := Lib.hid hwr
  obtain ⟨m, hm⟩ : ∃ m, T.length = m := ⟨_, rfl⟩
  rw [hm] at HTS hle ⊢
  have HM := Lib.hid hm
  obtain ⟨E, hE⟩ : ∃ E : Int, (if trK bs ps kf wrg m = [] then 3 else 0) = E := ⟨_, rfl⟩
  rw [hE]
  have HE := Lib.hid hE
  clear HB HP ek e1 e2 h3 hv hta hT hm hbl hpl hE
  go_enter Try.func42, Try.ntmps42
  go_wp2_with fail
  obtain ⟨W, hW⟩ : ∃ W, w.alloc (.cells #[.slice (Ab) nb cb, .int .i64 kf, .slice (Ap) np cp, .int .i64 wrg] 25) = W := ⟨_, rfl⟩
  have B0 : Below w.heap.size w W := by rw [← hW]; exact (Below.refl _ _).alloc (Nat.le_refl _) _
  have c0 := Lib.hid (al1_0 hW).2.1
  have l0 := (al1_0 hW).1
  rw [hW]
  clear hW
  have zW := B0.size
  refine (hcc.out _ B0).mono ?_
  rintro e w1 ⟨rfl, hb1⟩
  have B1 : Below w.heap.size w w1 := B0.trans (hb1.mono zW)
  have c1 := fun j => (hb1.cell (p := ⟨w.heap.size, j, none⟩) l0).trans (c0.out j)
  have z1 := hb1.size
  go_wp2_with fail
  refine (hall.out _ B1).mono ?_
  rintro e w2 ⟨A2, c2, hs2, rfl, hss, hfr, hb2⟩
  rw [HM.out] at hss hfr
  have HFR := Lib.hid (fun k hk a ha => Nat.le_trans B1.size ((hfr k hk a ha).elim id fun h => by cases h) : ∀ k, k < m → ∀ a, (hAt hs2 k).A = some a → w.heap.size ≤ a.block)
  clear hfr
  have HSS := Lib.hid hss
  have B2 : Below w.heap.size w w2 := B1.trans (hb2.mono B1.size)
  have C2 := Lib.hid (fun j => (hb2.cell (p := ⟨w.heap.size, j, none⟩) (by show w.heap.size < _; omega)).trans (c1 j))
  have z2 := hb2.size
  have own0 := Lib.hid (OwnSs.nil w2 w2.heap.size 36)
  clear hss hb2 c1
  have HML := Lib.hid (show (T.length : Int) = m by rw [HM.out])
  rw [HM.out]
  go_wp2_with fail
  go_loopw [7, 9] (fun v i (wr : World) => ∃ (k : Nat) (hs : List Hd), k ≤ m ∧ i = .int .i64 k ∧ Hid (∀ h ∈ hs, ∀ a, h.A = some a → w.heap.size ≤ a.block) ∧ Hid (OwnSs w2.heap.size 36 wr v (trK bs ps kf wrg k).length hs ((trK bs ps kf wrg k).map toI)) ∧ Below w2.heap.size w2 wr) (fun _ i _ => m - (intOf i).toNat)
  case atStart => exact ⟨0, [], by omega, rfl, Lib.hid (fun h hh => by cases hh), by rw [show trK bs ps kf wrg 0 = [] by simp [trK]]; exact own0, Below.refl _ _⟩
  case round =>
    obtain ⟨k, hs, hk, rfl, HF, HO, hb⟩ := hrel
    have zb := hb.size
    have l2 : w.heap.size < w2.heap.size := by omega
    have cc := fun j => (hb.cell (p := ⟨w.heap.size, j, none⟩) l2).trans (C2.out j)
    have hbw : Below w.heap.size w wr := B2.trans (hb.mono (by omega))
    have htl := HTL.out k
    obtain ⟨LK, hLK⟩ : ∃ L, trK bs ps kf wrg k = L := ⟨_, rfl⟩
    by_cases hlt : k < m
    · have hqB : decide ((k : Int) < m) = true := by simp; omega
      have hsu := HTS.out k hlt
      rw [hLK] at HO hsu htl
      obtain ⟨b1, o1, rfl, hb1, x1, i1⟩ := (HSS.out.later hb).get hlt
      have bd1 := HSS.out.bd k hlt
      rw [xAt_map] at i1
      have hmem := lAt_mem (L := T) (k := k) (by rw [HM.out]; exact hlt)
      obtain ⟨l, hl⟩ : ∃ l, lAt T k = l := ⟨_, rfl⟩
      obtain ⟨h, hh⟩ : ∃ h, hAt hs2 k = h := ⟨_, rfl⟩
      rw [hl] at i1 hsu hmem
      have FH : Hid (∀ a, h.A = some a → w.heap.size ≤ a.block) := Lib.hid (by rw [← hh]; exact HFR.out k hlt)
      rw [hh] at x1 i1 bd1
      have hn : l.length = h.n := by rw [← toI_len]; exact i1.1
      have hw := fun V hV hI => hwr.out h.A h.c l V hmem hV hI
      rw [hn] at hw
      obtain ⟨g, hg⟩ : ∃ g : Int, ((wgB bs ps l : Nat) : Int) = g := ⟨_, rfl⟩
      rw [hg] at hw hsu
      have hw2 : ∀ V, Below wr.heap.size wr V → Calls Try.prog 69 #[.agg #[.slice Ab nb cb, .int .i64 kf, .slice Ap np cp, .int .i64 wrg], .slice h.A h.n h.c] V fun e V' => e = .returned (.int .i64 g) ∧ Below V.heap.size V V' := fun V hV => hw V (hbw.trans (hV.mono hbw.size)) (i1.later hV)
      have I1 := Lib.hid i1
      have BD1 := Lib.hid bd1
      have HW2 := Lib.hid hw2
      have m0 : w.heap.size < wr.heap.size := by omega
      have hml : LK.length ≤ 1024 := by omega
      clear hl hh hg hmem hw hw2 i1 bd1 hn
      cases eg : decide (g ≤ wrg)
      · rw [eg] at hsu
        have HY := Lib.hid (hsu.trans (List.append_nil _))
        clear hsu
        go_upto_region 11 with (fail)
        have hcq := fun p : Regrown => (bcell (below_regrown wr p.d p.os)).1
        refine wp_region_quiet_below (by kernel_rfl) (by kernel_rfl) ?_
        repeat (go_big_quiet_step ((go_at_call 69; exact Calls.regrown_of (HW2.out _ (below_regrown _ _ _)))))
        refine wpQuiet_nil ?_
        intro wq hq
        obtain ⟨pq, hq⟩ := hq
        have hbq : Below wr.heap.size wr wq := by rw [hq]; exact below_regrown _ _ _
        clear hq hcq pq
        obtain ⟨hcq, hfq⟩ := bcell hbq
        have zq := hbq.size
        go_wp2_with fail
        go_roundw
        case rel => exact ⟨k + 1, hs, by omega, by go_num, HF, by rw [HY.out]; exact Lib.hid (HO.out.later hbq), by (repeat first | with_reducible assumption | with_reducible exact Below.refl _ _ | (with_reducible refine Below.alloc ?_ ?side _; case side => (first | omega | (with_reducible exact Below.size (by assumption)) | (simp; done) | (simp; omega))) | (with_reducible refine Below.setCell ?_ ?side _; case side => (first | omega | (with_reducible exact Below.size (by assumption)) | (simp; done) | (simp; omega))) | with_reducible refine Below.drew ?_ | with_reducible refine below_drewN ?_ _ | (with_reducible refine below_step (by assumption) ?side ?_; case side => (first | omega | (with_reducible exact Below.size (by assumption)) | (simp; done) | (simp; omega))))⟩
        case measure => simp [intOf]; omega
      · rw [eg] at hsu
        have HY : Hid (trK bs ps kf wrg (k + 1) = LK ++ [l]) := hsu
        clear hsu
        go_upto_region 11 with (fail)
        have hcq := fun p : Regrown => (bcell (below_regrown wr p.d p.os)).1
        refine wp_region_quiet_below (by kernel_rfl) (by kernel_rfl) ?_
        repeat (go_big_quiet_step ((go_at_call 69; exact Calls.regrown_of (HW2.out _ (below_regrown _ _ _)))))
        refine wpQuiet_nil ?_
        intro wq hq
        obtain ⟨pq, hq⟩ := hq
        have hbq : Below wr.heap.size wr wq := by rw [hq]; exact below_regrown _ _ _
        clear hq hcq pq
        obtain ⟨hcq, hfq⟩ := bcell hbq
        have zq := hbq.size
        have x1q := (hbq.cell (p := ⟨b1, o1 + k, none⟩) hb1).trans x1
        have bq : Below w2.heap.size w2 wq := hb.trans (hbq.mono zb)
        have HOq := Lib.hid (HO.out.later hbq)
        have I1q := Lib.hid (I1.out.later hbq)
        go_wp2_with (at_builtin; go_must (refine wpList_append_T _ (d := (⟨none, 0, 0⟩ : Hd)) rfl (.tmp 34) (.tmp 39) _ rfl w2.heap.size _ 1 24 slcE1 encH_len encH_one u7 u7.ownBlock LK.length hs rfl rfl ?_ _ 1 _ [h] rfl ?_ ?_ ?_ ?_; (exact HOq.out.own.alloc _); (exact sl_new encH_len rfl rfl rfl); (focus omega); (focus (simp only [World.size_alloc]; omega)); (intro v' w6 hown6 hg6 hat6; have hb6 : Below w2.heap.size w2 w6 := (Below.grown (by (repeat first | with_reducible assumption | with_reducible exact Below.refl _ _ | (with_reducible refine Below.alloc ?_ ?side _; case side => (first | omega | (with_reducible exact Below.size (by assumption)) | (simp; done) | (simp; omega))) | (with_reducible refine Below.setCell ?_ ?side _; case side => (first | omega | (with_reducible exact Below.size (by assumption)) | (simp; done) | (simp; omega))) | with_reducible refine Below.drew ?_ | with_reducible refine below_drewN ?_ _ | (with_reducible refine below_step (by assumption) ?side ?_; case side => (first | omega | (with_reducible exact Below.size (by assumption)) | (simp; done) | (simp; omega))))) hg6 (by simp only [World.size_alloc]; omega) (own_ge HOq.out.own)); have HP := Lib.hid (HOq.out.push I1q.out (fun a e => ⟨fun e' => (by have h2 := (HOq.out.own.lt _ e').1; have h3 := BD1.out a e; omega), (by have h3 := BD1.out a e; omega)⟩) hown6 hg6 hat6); clear hown6 hg6 hat6)))
        go_roundw
        case rel => exact ⟨k + 1, hs ++ [h], by omega, by go_num, Lib.hid (fun y hy => (List.mem_append.1 hy).elim (HF.out y) fun e => by rw [List.mem_singleton.1 e]; exact FH.out), by rw [HY.out, List.length_append, List.map_append]; exact HP, hb6⟩
        case measure => simp [intOf]; omega
    · obtain rfl : k = m := by omega
      have hqB : decide (((k : Nat) : Int) < k) = false := by simp
      have hE := HE.out
      rw [hLK] at HO hE
      have HLK := Lib.hid hLK
      obtain ⟨A3, c3, rfl, hss3⟩ := HO.out.ss
      have HS3 := Lib.hid hss3
      have FA : Hid (∀ a, A3 = some a → w.heap.size ≤ a.block) := Lib.hid (fun a ha => Nat.le_trans B2.size (own_addr HO.out.own a ha).1)
      obtain ⟨g, hg⟩ : ∃ g, LK.length = g := ⟨_, rfl⟩
      have HG := Lib.hid hg
      by_cases e : LK = []
      · have hz : ((g : Int) == 0) = true := by rw [← hg, e]; rfl
        rw [if_pos e] at hE
        subst hE
        have HE := Lib.hid e
        clear e hss3 HO hLK htl
        rw [hg]
        clear hg
        go_wp2_with fail
        exact bodyPost_ret (v := .tuple #[.slice none 0 0, .int .i64 3]) (by simp [results, Try.results42, go_sem]) rfl (by show TrsRet (trK bs ps kf wrg k) 3 w _ _; rw [HLK.out, HE.out]; exact ⟨none, 0, [], rfl, SsAt.nil _, by (repeat first | with_reducible assumption | with_reducible exact Below.refl _ _ | (with_reducible refine Below.alloc ?_ ?side _; case side => (first | omega | (with_reducible exact Below.size (by assumption)) | (simp; done) | (simp; omega))) | (with_reducible refine Below.setCell ?_ ?side _; case side => (first | omega | (with_reducible exact Below.size (by assumption)) | (simp; done) | (simp; omega))) | with_reducible refine Below.drew ?_ | with_reducible refine below_drewN ?_ _ | (with_reducible refine below_step (by assumption) ?side ?_; case side => (first | omega | (with_reducible exact Below.size (by assumption)) | (simp; done) | (simp; omega)))), fun _ => ⟨rfl, rfl⟩, (fun h hh => by cases hh), fun a h => by cases h⟩)
      · have hpos := List.length_pos_iff.2 e
        have hz : ((g : Int) == 0) = false := by rw [beq_eq_false_iff_ne]; omega
        rw [if_neg e] at hE
        subst hE
        clear e hss3 HO hLK htl hpos
        rw [hg] at HS3 ⊢
        clear hg
        go_wp2_with fail
        exact bodyPost_ret (v := .tuple #[.slice A3 g c3, .int .i64 0]) (by simp [results, Try.results42, go_sem]) rfl (by show TrsRet (trK bs ps kf wrg k) 0 w _ _; rw [HLK.out]; exact ⟨A3, c3, hs, by rw [HG.out], by rw [HG.out]; exact HS3.out, by (repeat first | with_reducible assumption | with_reducible exact Below.refl _ _ | (with_reducible refine Below.alloc ?_ ?side _; case side => (first | omega | (with_reducible exact Below.size (by assumption)) | (simp; done) | (simp; omega))) | (with_reducible refine Below.setCell ?_ ?side _; case side => (first | omega | (with_reducible exact Below.size (by assumption)) | (simp; done) | (simp; omega))) | with_reducible refine Below.drew ?_ | with_reducible refine below_drewN ?_ _ | (with_reducible refine below_step (by assumption) ?side ?_; case side => (first | omega | (with_reducible exact Below.size (by assumption)) | (simp; done) | (simp; omega)))), (fun h => absurd rfl h), HF.out, FA.out⟩)
end

theorem manyR_trs {bs : List Br} {ps : List Pc} {kf wr : Int} : ((trsL bs ps kf wr true).length : Int) = manyR bs ps kf wr := by
  cases h : ckS bs ps kf wr
  · have e1 : askE bs ps kf wr true = 10 := by unfold askE; rw [h]; rfl
    unfold trsL manyR
    rw [e1]; rfl
  · rw [manyR_ok h]
    unfold trsL
    rw [askE_ok h]
    by_cases e : trL bs ps kf wr = []
    · rw [if_pos e, e]; rfl
    · rw [if_neg e]; rfl
theorem trs_ok {bs : List Br} {ps : List Pc} {kf wr : Int} (h : ckS bs ps kf wr = true) : trsL bs ps kf wr true = trL bs ps kf wr := by
  unfold trsL
  rw [askE_ok h]
  by_cases e : trL bs ps kf wr = []
  · rw [if_pos e, e]; rfl
  · rw [if_neg e]; rfl
theorem trs_sub {bs : List Br} {ps : List Pc} {kf wr : Int} {is : Bool} {l : List Nat} (h : l ∈ trsL bs ps kf wr is) : ckS bs ps kf wr = true ∧ l ∈ trL bs ps kf wr := by
  cases e : ckS bs ps kf wr
  · have e1 : askE bs ps kf wr is = 10 := by unfold askE; rw [e]; rfl
    unfold trsL at h
    rw [e1] at h
    cases h
  · refine ⟨rfl, ?_⟩
    unfold trsL at h
    cases e1 : (askE bs ps kf wr is == 0)
    · rw [e1] at h; cases h
    · rw [e1] at h; exact h
theorem TrsRet.err {bs : List Br} {ps : List Pc} {kf wr : Int} {is : Bool} {w w' : World} {e : Ending} (hz : askE bs ps kf wr is ≠ 0) (h : TrsRet (trsL bs ps kf wr is) (askE bs ps kf wr is) w e w') : e = .returned (.tuple #[.slice none 0 0, .int .i64 (askE bs ps kf wr is)]) ∧ Below w.heap.size w w' := by
  obtain ⟨A, c, hs, rfl, -, hb, h0, -⟩ := h
  obtain ⟨rfl, rfl⟩ := h0 hz
  have : trsL bs ps kf wr is = [] := by
    unfold trsL
    rw [show (askE bs ps kf wr is == 0) = false by rw [beq_eq_false_iff_ne]; exact hz]; rfl
  exact ⟨by rw [this]; rfl, hb⟩
def knI (some many : Int) : Int := bif some == many then 1 else bif some == 0 then 2 else 3
theorem knI_knP {α : Type} {p : α → Bool} {L : List α} (hne : L ≠ []) : knI (L.countP p : Nat) (L.length : Nat) = knP p L := by
  have h1 := L.length_eq_countP_add_countP p
  have h0 := List.length_pos_iff.2 hne
  have h2 : L.countP (fun a => decide ¬ p a = true) = L.countP fun x => !p x := List.countP_congr fun x _ => by cases p x <;> simp
  rw [h2] at h1
  unfold knI knP
  rcases Nat.eq_zero_or_pos (L.countP fun x => !p x) with e | e
  · rw [e] at h1 ⊢
    rw [show (((L.countP p : Nat) : Int) == (L.length : Nat)) = true by rw [beq_iff_eq]; omega]; try rfl
  · rw [show (((L.countP p : Nat) : Int) == (L.length : Nat)) = false by rw [beq_eq_false_iff_ne]; omega, show ((L.countP fun x => !p x) == 0) = false by rw [beq_eq_false_iff_ne]; omega]
    rcases Nat.eq_zero_or_pos (L.countP p) with e' | e'
    · rw [e']; try rfl
    · rw [show (((L.countP p : Nat) : Int) == 0) = false by rw [beq_eq_false_iff_ne]; omega, show ((L.countP p) == 0) = false by rw [beq_eq_false_iff_ne]; omega]; try rfl
section
variable (Ab Ap : Option Addr) (nb cb np cp : Nat) (kf wrg : Int) (bs : List Br) (ms : List Pm) (ps : List Pc) (w : World)
/-- least so far -/
def LsInv (nb : Nat) (T : List (List Nat)) (k n : Nat) : Prop := (k = 0 ∧ n = 0) ∨ (0 < k ∧ (∃ j, j < k ∧ usL nb (lAt T j) = n) ∧ ∀ j, j < k → n ≤ usL nb (lAt T j))
theorem LsInv.step {nb k n : Nat} {T : List (List Nat)} (h : LsInv nb T k n) : LsInv nb T (k + 1) (if k = 0 ∨ usL nb (lAt T k) < n then usL nb (lAt T k) else n) := by
  refine .inr ⟨by omega, ?_, fun j hj => ?_⟩
  · rcases h with ⟨h, -⟩ | ⟨h0, ⟨j, hj, h1⟩, -⟩
    · rw [if_pos (.inl h)]; exact ⟨k, by omega, rfl⟩
    · by_cases c : usL nb (lAt T k) < n
      · rw [if_pos (.inr c)]; exact ⟨k, by omega, rfl⟩
      · rw [if_neg (by omega)]; exact ⟨j, by omega, h1⟩
  · rcases h with ⟨h, -⟩ | ⟨h0, -, h2⟩
    · rw [if_pos (.inl h)]
      obtain rfl : j = k := by omega
      exact Nat.le_refl _
    · rcases Nat.lt_succ_iff_lt_or_eq.1 hj with h' | rfl
      · have := h2 j h'
        split <;> omega
      · split <;> omega
theorem ls_least {bs : List Br} {ps : List Pc} {kf wr : Int} {n : Nat} (h : LsInv bs.length (trsL bs ps kf wr true) (trsL bs ps kf wr true).length n) : (n : Int) = leastP bs ps kf wr := by
  cases hc : ckS bs ps kf wr
  · have e1 : askE bs ps kf wr true = 10 := by unfold askE; rw [hc]; rfl
    have e2 : trsL bs ps kf wr true = [] := by unfold trsL; rw [e1]; rfl
    rw [e2] at h
    have e3 : leastP bs ps kf wr = ((srtC (planP bs ps kf wr)).length : Int) := rfl
    have e4 : planP bs ps kf wr = [] := by unfold planP; rw [e1]; rfl
    have e5 : srtC [] = [] := List.eq_nil_iff_forall_not_mem.2 fun v hv => by have := srtC_mem.1 hv; cases this
    rw [e3, e4, e5]
    rcases h with ⟨-, h⟩ | ⟨h, -⟩
    · rw [h]; rfl
    · simp at h
  · rw [trs_ok hc] at h
    rcases least_ok hc with ⟨e1, e2⟩ | ⟨l, hl, e2, hm⟩
    · rw [e1] at h
      rw [e2]
      rcases h with ⟨-, h⟩ | ⟨h, -⟩
      · rw [h]; rfl
      · simp at h
    · rw [e2]
      rcases h with ⟨h, -⟩ | ⟨-, ⟨j, hj, h1⟩, h2⟩
      · have := List.length_pos_of_mem hl
        omega
      · have a1 := hm _ (lAt_mem hj)
        obtain ⟨i, hi, rfl⟩ := List.getElem_of_mem hl
        have a2 := h2 i hi
        have e : lAt (trL bs ps kf wr) i = (trL bs ps kf wr)[i] := by unfold lAt; rw [List.getD_eq_getElem?_getD, List.getElem?_eq_getElem hi]; rfl
        rw [e] at a2
        omega
/-- a truth among those that came, in memory -/
def AtT (w : World) (T : List (List Nat)) (hs : List Hd) : Prop := ∀ k, k < T.length → IntsAt w (hAt hs k).A (lAt T k).length (toI (lAt T k)) ∧ (hAt hs k).n = (lAt T k).length
end

end Go.Proofs.Ytdhlnlmhdacblaa
