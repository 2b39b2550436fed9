/- Example of the statements (layer 11); works of the statements (layer 11): the chapter's examples. -/
import Derived.Test.YtdhlnlmhdacblaaTs36
import Derived.Test.YtdhlnlmhdacblaaTs42
namespace Go.Proofs.Ytdhlnlmhdacblaa
open Go.RowKit
open Go.Sort (grow)
set_option linter.unusedVariables false
set_option linter.unusedSimpArgs false

theorem sl_cells_q11 {α : Type} {enc : α → List Value} {size : Nat} {d : α} (hs : ∀ x, (enc x).length = size) {w : World} {cs : Array Value} {ys : List α} {g m : Nat} (hg : g < w.heap.size) (hc : ∀ i, w.cell? ⟨g, i, none⟩ = cs[i]?) (hl : ys.length = m) (hcs : cs.toList = ys.flatMap enc) :
    SlAt enc size d w (some ⟨g, 0, none⟩) m ys := by
  refine ⟨hl, fun _ => ⟨g, 0, rfl, hg, fun k hk j u hu => ?_⟩⟩
  have hj : j < size := by
    have := (List.getElem?_eq_some_iff.1 hu).1
    rwa [hs] at this
  rw [hc, Nat.zero_add, ← Array.getElem?_toList, hcs, flat_get (d := d) hs ys k j hj (by omega)]
  exact hu
theorem three_set {w : World} {b : Nat} {a0 a1 a2 v0 v1 v2 : Value} (h : ∀ j, w.cell? ⟨b, j, none⟩ = #[a0, a1, a2][j]?) (j : Nat) :
    (((w.setCell ⟨b, 0, none⟩ v0).setCell ⟨b, 1, none⟩ v1).setCell ⟨b, 2, none⟩ v2).cell? ⟨b, j, none⟩ = #[v0, v1, v2][j]? := by
  have d1 : (w.setCell ⟨b, 0, none⟩ v0).cell? ⟨b, 1, none⟩ = some a1 := by
    rw [World.cell?_setCell_other _ _ _ _ (by simp)]; exact h 1
  have d2 : ((w.setCell ⟨b, 0, none⟩ v0).setCell ⟨b, 1, none⟩ v1).cell? ⟨b, 2, none⟩ = some a2 := by
    rw [World.cell?_setCell_other _ _ _ _ (by simp), World.cell?_setCell_other _ _ _ _ (by simp)]; exact h 2
  match j with
  | 0 => rw [World.cell?_setCell_other _ _ _ _ (by simp), World.cell?_setCell_other _ _ _ _ (by simp)]; exact World.cell?_setCell_same _ _ _ (h 0)
  | 1 => rw [World.cell?_setCell_other _ _ _ _ (by simp)]; exact World.cell?_setCell_same _ _ _ d1
  | 2 => exact World.cell?_setCell_same _ _ _ d2
  | j + 3 => rw [World.cell?_setCell_other _ _ _ _ (by simp), World.cell?_setCell_other _ _ _ _ (by simp), World.cell?_setCell_other _ _ _ _ (by simp), h]; rfl

theorem sl_set_q11 {α : Type} {enc : α → List Value} {size : Nat} {d : α} {w : World} {n b off : Nat} {xs : List α} (h : SlAt enc size d w (some ⟨b, off, none⟩) n xs) {p : Addr} (u : Value) (hp : b ≠ p.block) : SlAt enc size d (w.setCell p u) (some ⟨b, off, none⟩) n xs := by
  refine ⟨h.1, fun hn => ?_⟩
  obtain ⟨b', off', e, hb, hc⟩ := h.2 hn
  cases e
  refine ⟨b, off, rfl, by simpa using hb, fun k hk j u' hu => ?_⟩
  rw [World.cell?_setCell_other _ _ _ _ (by intro e; subst e; exact hp rfl)]
  exact hc k hk j u' hu
theorem sl_of_own_q11 {α : Type} {enc : α → List Value} {size : Nat} {d : α} (hs : ∀ x, (enc x).length = size) {w : World} {base : Nat} {e : TypeId} {A : Option Addr} {n c : Nat} {xs : List α} (h : w.ownsRow base e size (.slice A n c) n (xs.flatMap enc)) (hl : xs.length = n) : SlAt enc size d w A n xs := by
  obtain ⟨A', c', e, -, hh⟩ := SlAt.of_own (d := d) hs h hl
  cases e
  exact hh

theorem set3_id {w : World} {b : Nat} {v0 v1 v2 : Value} (h0 : w.cell? ⟨b, 0, none⟩ = some v0) (h1 : w.cell? ⟨b, 1, none⟩ = some v1) (h2 : w.cell? ⟨b, 2, none⟩ = some v2) (q : Addr) :
    (((w.setCell ⟨b, 0, none⟩ v0).setCell ⟨b, 1, none⟩ v1).setCell ⟨b, 2, none⟩ v2).cell? q = w.cell? q := by
  have one : ∀ (w : World) (p q : Addr) (v : Value), w.cell? p = some v → (w.setCell p v).cell? q = w.cell? q := fun w p q v h => by
    by_cases e : p = q
    · subst e; rw [World.cell?_setCell_same _ _ _ h, h]
    · rw [World.cell?_setCell_other _ _ _ _ e]
  have k1 := fun q => one w ⟨b, 0, none⟩ q v0 h0
  have k2 := fun q => one (w.setCell ⟨b, 0, none⟩ v0) ⟨b, 1, none⟩ q v1 (by rw [k1, h1])
  have k3 := fun q => one ((w.setCell ⟨b, 0, none⟩ v0).setCell ⟨b, 1, none⟩ v1) ⟨b, 2, none⟩ q v2 (by rw [k2, k1, h2])
  rw [k3, k2, k1]

theorem sl_cong {α : Type} {enc : α → List Value} {size : Nat} {d : α} {w w' : World} {A : Option Addr} {n : Nat} {xs : List α} (h : SlAt enc size d w A n xs) (hc : ∀ q, w'.cell? q = w.cell? q) (hs : w.heap.size ≤ w'.heap.size) : SlAt enc size d w' A n xs := by
  refine ⟨h.1, fun hn => ?_⟩
  obtain ⟨b', off', e, hb, hcc⟩ := h.2 hn
  exact ⟨b', off', e, Nat.lt_of_lt_of_le hb hs, fun k hk j u' hu => (hc _).trans (hcc k hk j u' hu)⟩

theorem sl_drew {α : Type} {enc : α → List Value} {size : Nat} {d : α} {w : World} {A : Option Addr} {n : Nat} {xs : List α} (h : SlAt enc size d w A n xs) : SlAt enc size d w.drew A n xs := h

set_option maxRecDepth 100000 in
set_option maxHeartbeats 3200000 in
theorem Example_c_q11 (w : World) :
    Calls Try.prog 21 #[] w
      fun e w' => ∃ A0 c0 A1 c1 A2 c2 A3 c3, e = .returned (.tuple #[.agg #[.slice A0 3 c0, .slice A1 4 c1, .int .i64 0], .agg #[.slice A2 3 c2, .slice A3 5 c3, .int .i64 0]]) ∧ SpsAt w' A0 3 exPl ∧ LnsAt w' A1 4 exLs ∧ SpsAt w' A2 3 exPl ∧ LnsAt w' A3 5 exLc ∧ Below w.heap.size w w' := by
  go_enter Try.func21, Try.ntmps21
  go_wp2_with fail
  refine (Copy_c_q11 (some ⟨w.heap.size + 1 + 1, 0, none⟩) (some ⟨w.heap.size + 1 + 1 + 1, 0, none⟩) 3 3 4 4 0 exPl exLs _ (by omega) (by omega) (sps_iff.2 (sl_cells_q11 encS_len (al4_2 rfl).1 (al4_2 rfl).2.1 rfl rfl)) (lns_iff.2 (sl_cells_q11 encL_len (al4_3 rfl).1 (al4_3 rfl).2.1 rfl rfl))).mono ?_
  rintro e w1 ⟨A2, c2, A3, c3, rfl, hO, hb1⟩
  obtain ⟨hc1, hf1⟩ := bcell hb1
  have zs1 := hb1.size
  simp only [World.size_alloc] at zs1
  have s0 := fun i => (hc1 w.heap.size i (by first | omega | (simp; done) | (simp; omega))).trans ((al4_0 rfl).2.1 i)
  have s1 := fun i => (hc1 (w.heap.size + 1) i (by first | omega | (simp; done) | (simp; omega))).trans ((al4_1 rfl).2.1 i)
  have s2 := fun i => (hc1 (w.heap.size + 1 + 1) i (by first | omega | (simp; done) | (simp; omega))).trans ((al4_2 rfl).2.1 i)
  have s3 := fun i => (hc1 (w.heap.size + 1 + 1 + 1) i (by first | omega | (simp; done) | (simp; omega))).trans ((al4_3 rfl).2.1 i)
  have g0 := fun i => (hf1 w.heap.size i (by first | omega | (simp; done) | (simp; omega))).trans ((al4_0 rfl).2.2 i)
  have g1 := fun i => (hf1 (w.heap.size + 1) i (by first | omega | (simp; done) | (simp; omega))).trans ((al4_1 rfl).2.2 i)
  have hbw : Below w.heap.size w w1 := by (repeat first | with_reducible assumption | with_reducible exact Below.refl _ _ | (with_reducible refine Below.alloc ?_ ?side _; case side => (first | omega | (with_reducible exact Below.size (by assumption)) | (simp; done) | (simp; omega))) | (with_reducible refine Below.setCell ?_ ?side _; case side => (first | omega | (with_reducible exact Below.size (by assumption)) | (simp; done) | (simp; omega))) | with_reducible refine Below.drew ?_ | with_reducible refine below_drewN ?_ _ | (with_reducible refine below_step (by assumption) ?side ?_; case side => (first | omega | (with_reducible exact Below.size (by assumption)) | (simp; done) | (simp; omega))))
  have HPI : Hid (SpsAt w1 (some ⟨w.heap.size + 1 + 1, 0, none⟩) 3 exPl) := sps_iff.2 (sl_cells_q11 encS_len (by omega) s2 rfl rfl)
  have HLI : Hid (LnsAt w1 (some ⟨w.heap.size + 1 + 1 + 1, 0, none⟩) 4 exLs) := lns_iff.2 (sl_cells_q11 encL_len (by omega) s3 rfl rfl)
  have hO2 : BookOwn (w.heap.size + 4) 3 4 A2 A3 c2 c3 exPl exLs w1 := by simpa using hO
  have HO := Lib.hid hO2
  have n0 : w.heap.size < w1.heap.size := by omega
  have n1 : w.heap.size + 1 < w1.heap.size := by omega
  clear hO hO2 hb1 hc1 hf1
  go_wp2_with (at_builtin; go_must (refine wpList_append_T _ (d := (⟨0, 0, ⟨0, 0⟩, ⟨0, 0⟩⟩ : Ln)) rfl (.tmp 20) (.tmp 23) _ rfl (w.heap.size + 4) _ 6 48 lnE encL_len encL_one (.slice A3 4 c3) _ 4 exLs rfl rfl ?ow _ 1 _ [⟨2, -1, ⟨10, 10⟩, ⟨0, 0⟩⟩] rfl ?sl (by omega) ?bs ?mn))
  case sl => exact sl_new encL_len (by simp) rfl rfl
  case bs => simp; omega
  case ow =>
    refine World.ownsRow.alloc ?_ _
    repeat first | with_reducible exact HO.out.hl | refine own_set_q11 ?_ (fun k hk => by have := (HO.out.hl.lt k hk).1; simp; omega)
  case mn =>
    intro v' w2 hown2 hg2 hat2
    have hown3 : w2.ownsRow (w.heap.size + 4) 52 6 v' 5 (exLc.flatMap encL) := hown2
    clear hown2
    obtain ⟨A5, c5, rfl, -, hs5⟩ := SlAt.of_own (d := (⟨0, 0, ⟨0, 0⟩, ⟨0, 0⟩⟩ : Ln)) encL_len hown3 rfl
    have hO5 : Hid (w2.ownsRow (w.heap.size + 4) 52 6 (.slice A5 5 c5) 5 (exLc.flatMap encL)) := hown3
    have z2 := hg2.size
    simp only [World.size_alloc, World.size_setCell] at z2
    have hbX : ∀ B, B ≤ w.heap.size + 4 → Below B _ w2 := fun B hB => Below.grown (Below.refl _ _) hg2 (by simp; omega) (fun k hk => Nat.le_trans hB (HO.out.hl.lt k hk).1)
    have x1 := fun j => ((hbX (w.heap.size + 4) (Nat.le_refl _)).cell (p := ⟨w.heap.size + 1, j, none⟩) (by show w.heap.size + 1 < _; omega)).trans ((World.cell?_alloc_lt _ _ ⟨w.heap.size + 1, j, none⟩ (by simp; omega)).trans (three_set (v0 := .slice A2 3 c2) (v1 := .slice A3 4 c3) (v2 := .int .i64 0) s1 j))
    have xg : ∀ b j, b < w.heap.size + 4 → b < w1.heap.size → b ≠ w.heap.size + 1 → w2.cell? ⟨b, j, none⟩ = w1.cell? ⟨b, j, none⟩ := fun b j hb hb1 hne =>
      ((hbX (w.heap.size + 4) (Nat.le_refl _)).cell (p := ⟨b, j, none⟩) hb).trans ((World.cell?_alloc_lt _ _ ⟨b, j, none⟩ (by simpa using hb1)).trans (((World.cell?_setCell_other _ _ _ _ (by intro e; injection e with e1; exact hne e1.symm)).trans ((World.cell?_setCell_other _ _ _ _ (by intro e; injection e with e1; exact hne e1.symm)).trans (World.cell?_setCell_other _ _ _ _ (by intro e; injection e with e1; exact hne e1.symm))))))
    have x0 := fun j => (xg w.heap.size j (by omega) n0 (by omega)).trans (s0 j)
    have x2 := fun j => (xg (w.heap.size + 1 + 1) j (by omega) (by omega) (by omega)).trans (s2 j)
    have x3 := fun j => (xg (w.heap.size + 1 + 1 + 1) j (by omega) (by omega) (by omega)).trans (s3 j)
    have r1 := fun j => ((hbX (w.heap.size + 4) (Nat.le_refl _)).frozen (p := ⟨w.heap.size + 1, j, none⟩) (by show w.heap.size + 1 < _; omega)).trans (show _ = false by simp only [frozen?_alloc_cells, World.frozen?_setCell]; exact g1 j)
    have r0 := fun j => ((hbX (w.heap.size + 4) (Nat.le_refl _)).frozen (p := ⟨w.heap.size, j, none⟩) (by show w.heap.size < _; omega)).trans (show _ = false by simp only [frozen?_alloc_cells, World.frozen?_setCell]; exact g0 j)
    have hbE : Below w.heap.size w w2 := Below.grown (by (repeat first | with_reducible assumption | with_reducible exact Below.refl _ _ | (with_reducible refine Below.alloc ?_ ?side _; case side => (first | omega | (with_reducible exact Below.size (by assumption)) | (simp; done) | (simp; omega))) | (with_reducible refine Below.setCell ?_ ?side _; case side => (first | omega | (with_reducible exact Below.size (by assumption)) | (simp; done) | (simp; omega))) | with_reducible refine Below.drew ?_ | with_reducible refine below_drewN ?_ _ | (with_reducible refine below_step (by assumption) ?side ?_; case side => (first | omega | (with_reducible exact Below.size (by assumption)) | (simp; done) | (simp; omega))))) hg2 (by simp; omega) (fun k hk => by have := (HO.out.hl.lt k hk).1; omega)
    have hP5 : Hid (w2.ownsRow (w.heap.size + 4) 29 2 (.slice A2 3 c2) 3 (exPl.flatMap encS)) := by
      refine World.ownsRow.kept (World.ownsRow.alloc ?_ _) hg2 ?_
      · repeat first | with_reducible exact HO.out.hp | refine own_set_q11 ?_ (fun k hk => by have := (HO.out.hp.lt k hk).1; simp; omega)
      · cases e : (Value.slice A2 3 c2).ownBlock with
        | none => exact .inl rfl
        | some k => exact .inr fun h => HO.out.ne k e h.symm
    have HP2 : Hid (SlAt encS 2 ⟨0, 0⟩ w2 (some ⟨w.heap.size + 1 + 1, 0, none⟩) 3 exPl) := sl_cells_q11 encS_len (by omega) x2 rfl rfl
    have HL2 : Hid (SlAt encL 6 ⟨0, 0, ⟨0, 0⟩, ⟨0, 0⟩⟩ w2 (some ⟨w.heap.size + 1 + 1 + 1, 0, none⟩) 4 exLs) := sl_cells_q11 encL_len (by omega) x3 rfl rfl
    clear hg2 hat2 hs5 hown3 hbX s0 s1 g0 g1 xg x2 x3 s2 s3
    have m0 : w.heap.size < w2.heap.size := by omega
    have m1 : w.heap.size + 1 < w2.heap.size := by omega
    go_wp2_with fail
    go_name_world W3 hW3
    have y0 : ∀ j, W3.cell? ⟨w.heap.size, j, none⟩ = #[Value.slice (some ⟨w.heap.size + 1 + 1, 0, none⟩) 3 3, .slice (some ⟨w.heap.size + 1 + 1 + 1, 0, none⟩) 4 4, .int .i64 0][j]? := fun j => by
      rw [← hW3, World.cell?_setCell_other _ _ _ _ (by simp), x0]
    have y1 : W3.cell? ⟨w.heap.size + 1, 0, none⟩ = some (.slice A2 3 c2) := by
      rw [← hW3, World.cell?_setCell_other _ _ _ _ (by simp), x1]; rfl
    have y2 : W3.cell? ⟨w.heap.size + 1, 1, none⟩ = some (.slice A5 5 c5) := by
      rw [← hW3]; exact World.cell?_setCell_same _ _ _ (x1 1)
    have y3 : W3.cell? ⟨w.heap.size + 1, 2, none⟩ = some (.int .i64 0) := by
      rw [← hW3, World.cell?_setCell_other _ _ _ _ (by simp), x1]; rfl
    have t0 : ∀ j, W3.frozen? ⟨w.heap.size, j, none⟩ = false := fun j => by rw [← hW3, World.frozen?_setCell]; exact r0 j
    have t1 : ∀ j, W3.frozen? ⟨w.heap.size + 1, j, none⟩ = false := fun j => by rw [← hW3, World.frozen?_setCell]; exact r1 j
    have HP3 : Hid (SlAt encS 2 ⟨0, 0⟩ W3 (some ⟨w.heap.size + 1 + 1, 0, none⟩) 3 exPl) := by rw [← hW3]; exact sl_set_q11 HP2.out _ (by simp; try omega)
    have HL3 : Hid (SlAt encL 6 ⟨0, 0, ⟨0, 0⟩, ⟨0, 0⟩⟩ W3 (some ⟨w.heap.size + 1 + 1 + 1, 0, none⟩) 4 exLs) := by rw [← hW3]; exact sl_set_q11 HL2.out _ (by simp; try omega)
    have OP3 : Hid (W3.ownsRow (w.heap.size + 4) 29 2 (.slice A2 3 c2) 3 (exPl.flatMap encS)) := by
      rw [← hW3]; exact own_set_q11 hP5.out (fun k hk => by have := (hP5.out.lt k hk).1; simp; omega)
    have OL3 : Hid (W3.ownsRow (w.heap.size + 4) 52 6 (.slice A5 5 c5) 5 (exLc.flatMap encL)) := by
      rw [← hW3]; exact own_set_q11 hO5.out (fun k hk => by have := (hO5.out.lt k hk).1; simp; omega)
    have hb3 : Below w.heap.size w W3 := by rw [← hW3]; (repeat first | with_reducible assumption | with_reducible exact Below.refl _ _ | (with_reducible refine Below.alloc ?_ ?side _; case side => (first | omega | (with_reducible exact Below.size (by assumption)) | (simp; done) | (simp; omega))) | (with_reducible refine Below.setCell ?_ ?side _; case side => (first | omega | (with_reducible exact Below.size (by assumption)) | (simp; done) | (simp; omega))) | with_reducible refine Below.drew ?_ | with_reducible refine below_drewN ?_ _ | (with_reducible refine below_step (by assumption) ?side ?_; case side => (first | omega | (with_reducible exact Below.size (by assumption)) | (simp; done) | (simp; omega))))
    have z3 : w2.heap.size ≤ W3.heap.size := by rw [← hW3]; simp
    clear hW3 x0 x1 r0 r1
    have y00 := y0 0
    have y01 := y0 1
    have y02 := y0 2
    have HQ3 : Hid (SlAt encS 2 ⟨0, 0⟩ W3 A2 3 exPl) := sl_of_own_q11 encS_len OP3.out rfl
    have HM3 : Hid (SlAt encL 6 ⟨0, 0, ⟨0, 0⟩, ⟨0, 0⟩⟩ W3 A5 5 exLc) := sl_of_own_q11 encL_len OL3.out rfl
    have ZE : Hid (∀ q, ((((((W3.setCell ⟨w.heap.size, 0, none⟩ (.slice (some ⟨w.heap.size + 1 + 1, 0, none⟩) 3 3)).setCell ⟨w.heap.size, 1, none⟩ (.slice (some ⟨w.heap.size + 1 + 1 + 1, 0, none⟩) 4 4)).setCell ⟨w.heap.size, 2, none⟩ (.int .i64 0)).setCell ⟨w.heap.size + 1, 0, none⟩ (.slice A2 3 c2)).setCell ⟨w.heap.size + 1, 1, none⟩ (.slice A5 5 c5)).setCell ⟨w.heap.size + 1, 2, none⟩ (.int .i64 0)).cell? q = W3.cell? q) := fun q =>
      (set3_id ((set3_id y00 y01 y02 _).trans y1) ((set3_id y00 y01 y02 _).trans y2) ((set3_id y00 y01 y02 _).trans y3) q).trans (set3_id y00 y01 y02 q)
    clear OP3 OL3
    go_region
    all_goals
      go_wp2
      refine bodyPost_ret (v := .tuple #[.agg #[.slice (some ⟨w.heap.size + 1 + 1, 0, none⟩) 3 3, .slice (some ⟨w.heap.size + 1 + 1 + 1, 0, none⟩) 4 4, .int .i64 0], .agg #[.slice A2 3 c2, .slice A5 5 c5, .int .i64 0]]) ?_ rfl ⟨_, _, _, _, _, _, _, _, rfl, sps_iff.2 (sl_drew (sl_cong HP3.out ZE.out ?_)), lns_iff.2 (sl_drew (sl_cong HL3.out ZE.out ?_)), sps_iff.2 (sl_drew (sl_cong HQ3.out ZE.out ?_)), lns_iff.2 (sl_drew (sl_cong HM3.out ZE.out ?_)), ?_⟩
      · simp [results, Try.results21, go_sem, y0, y1, y2, y3]
      · simp
      · simp
      · simp
      · simp
      · (repeat first | with_reducible assumption | with_reducible exact Below.refl _ _ | (with_reducible refine Below.alloc ?_ ?side _; case side => (first | omega | (with_reducible exact Below.size (by assumption)) | (simp; done) | (simp; omega))) | (with_reducible refine Below.setCell ?_ ?side _; case side => (first | omega | (with_reducible exact Below.size (by assumption)) | (simp; done) | (simp; omega))) | with_reducible refine Below.drew ?_ | with_reducible refine below_drewN ?_ _ | (with_reducible refine below_step (by assumption) ?side ?_; case side => (first | omega | (with_reducible exact Below.size (by assumption)) | (simp; done) | (simp; omega))))

end Go.Proofs.Ytdhlnlmhdacblaa

namespace Go.Proofs.Ytdhlnlmhdacblaa
open Go.RowKit
open Go.Sort (grow)
set_option linter.unusedVariables false
set_option linter.unusedSimpArgs false

theorem ev_a1 : ansS (askZ 3 4 exPl exLs 0 (isNo 2 4)) (endsB 3 4 exPl exLs 0 (2 * (2 : Int).toNat)) = .tuple #[.agg #[.int .i64 55, .int .i64 58], .int .i64 0] := by
  rw [ev_askB 2 (by decide), show 2 * (2 : Int).toNat = 4 from rfl, ev_lineB]; rfl
theorem ev_a2 : ansS (askZ 3 4 exPl exLs 0 true) (endsB 3 4 exPl exLs 0 (2 * 4 + 3)) = .tuple #[.agg #[.int .i64 3, .int .i64 5], .int .i64 0] := by
  rw [ev_askB', show 2 * 4 + 3 = 11 from rfl, ev_lostB]; rfl
theorem ev_a3 : ansS (askZ 3 5 exPl exLc 1 (isNo 4 5)) (endsB 3 5 exPl exLc 1 (2 * (4 : Int).toNat)) = .tuple #[.agg #[.int .i64 0, .int .i64 5], .int .i64 0] := by
  rw [show isNo 4 5 = true from rfl, ev_askC, show 2 * (4 : Int).toNat = 8 from rfl, ev_lineC]; rfl
theorem ev_same : (1 == 1 && allN 1 fun k => iAt [4] k == iAt [4] k) = true := by decide

set_option maxRecDepth 100000 in
set_option maxHeartbeats 3200000 in
theorem works_c_q11 (w : World) :
    Calls Try.prog 7 #[] w fun e w' => e = .returned (.bool true) ∧ Below w.heap.size w w' := by
  go_enter Try.func7, Try.ntmps7
  go_wp2_with fail
  refine (Example_c_q11 _).mono ?_
  rintro e w1 ⟨A0, c0, A1, c1, A2, c2, A3, c3, rfl, h1, h2, h3, h4, hb1⟩
  have H1 := Lib.hid h1
  have H2 := Lib.hid h2
  have H3 := Lib.hid h3
  have H4 := Lib.hid h4
  clear h1 h2 h3 h4
  go_wp2_with fail
  refine (fewest_c_q11 A2 A3 3 c2 5 c3 0 exPl exLc _ (by omega) (by omega) (H3.out.later (by (repeat first | with_reducible assumption | with_reducible exact Below.refl _ _ | (with_reducible refine Below.alloc ?_ ?side _; case side => (first | omega | (with_reducible exact Below.size (by assumption)) | (simp; done) | (simp; omega))) | (with_reducible refine Below.setCell ?_ ?side _; case side => (first | omega | (with_reducible exact Below.size (by assumption)) | (simp; done) | (simp; omega))) | with_reducible refine Below.drew ?_ | with_reducible refine below_drewN ?_ _ | (with_reducible refine below_step (by assumption) ?side ?_; case side => (first | omega | (with_reducible exact Below.size (by assumption)) | (simp; done) | (simp; omega)))))) (H4.out.later (by (repeat first | with_reducible assumption | with_reducible exact Below.refl _ _ | (with_reducible refine Below.alloc ?_ ?side _; case side => (first | omega | (with_reducible exact Below.size (by assumption)) | (simp; done) | (simp; omega))) | (with_reducible refine Below.setCell ?_ ?side _; case side => (first | omega | (with_reducible exact Below.size (by assumption)) | (simp; done) | (simp; omega))) | with_reducible refine Below.drew ?_ | with_reducible refine below_drewN ?_ _ | (with_reducible refine below_step (by assumption) ?side ?_; case side => (first | omega | (with_reducible exact Below.size (by assumption)) | (simp; done) | (simp; omega))))))).mono ?_
  rw [ev_few]
  rintro e w2 ⟨rfl, hb2⟩
  obtain ⟨hc2, hf2⟩ := bcell hb2
  have zs2 := hb2.size
  simp only [World.size_alloc] at zs2
  have p2 := fun i => (hc2 w1.heap.size i (by first | omega | (simp; done) | (simp; omega))).trans ((al2_0 rfl).2.1 i)
  have r2 := fun i => (hc2 (w1.heap.size + 1) i (by first | omega | (simp; done) | (simp; omega))).trans ((al2_1 rfl).2.1 i)
  have t2 := fun i => (hf2 (w1.heap.size + 1) i (by first | omega | (simp; done) | (simp; omega))).trans ((al2_1 rfl).2.2 i)
  have b2 : Below w1.heap.size w1 w2 := by (repeat first | with_reducible assumption | with_reducible exact Below.refl _ _ | (with_reducible refine Below.alloc ?_ ?side _; case side => (first | omega | (with_reducible exact Below.size (by assumption)) | (simp; done) | (simp; omega))) | (with_reducible refine Below.setCell ?_ ?side _; case side => (first | omega | (with_reducible exact Below.size (by assumption)) | (simp; done) | (simp; omega))) | with_reducible refine Below.drew ?_ | with_reducible refine below_drewN ?_ _ | (with_reducible refine below_step (by assumption) ?side ?_; case side => (first | omega | (with_reducible exact Below.size (by assumption)) | (simp; done) | (simp; omega))))
  have m2 : w1.heap.size < w2.heap.size := by omega
  have n2 : w1.heap.size + 1 < w2.heap.size := by omega
  clear hc2 hf2 hb2
  go_wp2_with fail
  refine (Line_c A0 A1 3 c0 4 c1 0 2 exPl exLs _ (by omega) (by omega) (H1.out.later (by (repeat first | with_reducible assumption | with_reducible exact Below.refl _ _ | (with_reducible refine Below.alloc ?_ ?side _; case side => (first | omega | (with_reducible exact Below.size (by assumption)) | (simp; done) | (simp; omega))) | (with_reducible refine Below.setCell ?_ ?side _; case side => (first | omega | (with_reducible exact Below.size (by assumption)) | (simp; done) | (simp; omega))) | with_reducible refine Below.drew ?_ | with_reducible refine below_drewN ?_ _ | (with_reducible refine below_step (by assumption) ?side ?_; case side => (first | omega | (with_reducible exact Below.size (by assumption)) | (simp; done) | (simp; omega)))))) (H2.out.later (by (repeat first | with_reducible assumption | with_reducible exact Below.refl _ _ | (with_reducible refine Below.alloc ?_ ?side _; case side => (first | omega | (with_reducible exact Below.size (by assumption)) | (simp; done) | (simp; omega))) | (with_reducible refine Below.setCell ?_ ?side _; case side => (first | omega | (with_reducible exact Below.size (by assumption)) | (simp; done) | (simp; omega))) | with_reducible refine Below.drew ?_ | with_reducible refine below_drewN ?_ _ | (with_reducible refine below_step (by assumption) ?side ?_; case side => (first | omega | (with_reducible exact Below.size (by assumption)) | (simp; done) | (simp; omega))))))).mono ?_
  rw [ev_a1]
  rintro e w3 ⟨rfl, hb3⟩
  obtain ⟨hc3, hf3⟩ := bcell hb3
  have zs3 := hb3.size
  have p3 := fun i => (hc3 w1.heap.size i (by first | omega | (simp; done) | (simp; omega))).trans (p2 i)
  have r3 := fun i => (hc3 (w1.heap.size + 1) i (by first | omega | (simp; done) | (simp; omega))).trans (r2 i)
  have t3 := fun i => (hf3 (w1.heap.size + 1) i (by first | omega | (simp; done) | (simp; omega))).trans (t2 i)
  have b3 : Below w1.heap.size w1 w3 := by (repeat first | with_reducible assumption | with_reducible exact Below.refl _ _ | (with_reducible refine Below.alloc ?_ ?side _; case side => (first | omega | (with_reducible exact Below.size (by assumption)) | (simp; done) | (simp; omega))) | (with_reducible refine Below.setCell ?_ ?side _; case side => (first | omega | (with_reducible exact Below.size (by assumption)) | (simp; done) | (simp; omega))) | with_reducible refine Below.drew ?_ | with_reducible refine below_drewN ?_ _ | (with_reducible refine below_step (by assumption) ?side ?_; case side => (first | omega | (with_reducible exact Below.size (by assumption)) | (simp; done) | (simp; omega))))
  have m3 : w1.heap.size < w3.heap.size := by omega
  have n3 : w1.heap.size + 1 < w3.heap.size := by omega
  clear hc3 hf3 hb3 p2 r2 t2 b2
  go_wp2_with fail
  refine (Lost_c A0 A1 3 c0 4 c1 0 exPl exLs _ (by omega) (by omega) (H1.out.later (by (repeat first | with_reducible assumption | with_reducible exact Below.refl _ _ | (with_reducible refine Below.alloc ?_ ?side _; case side => (first | omega | (with_reducible exact Below.size (by assumption)) | (simp; done) | (simp; omega))) | (with_reducible refine Below.setCell ?_ ?side _; case side => (first | omega | (with_reducible exact Below.size (by assumption)) | (simp; done) | (simp; omega))) | with_reducible refine Below.drew ?_ | with_reducible refine below_drewN ?_ _ | (with_reducible refine below_step (by assumption) ?side ?_; case side => (first | omega | (with_reducible exact Below.size (by assumption)) | (simp; done) | (simp; omega)))))) (H2.out.later (by (repeat first | with_reducible assumption | with_reducible exact Below.refl _ _ | (with_reducible refine Below.alloc ?_ ?side _; case side => (first | omega | (with_reducible exact Below.size (by assumption)) | (simp; done) | (simp; omega))) | (with_reducible refine Below.setCell ?_ ?side _; case side => (first | omega | (with_reducible exact Below.size (by assumption)) | (simp; done) | (simp; omega))) | with_reducible refine Below.drew ?_ | with_reducible refine below_drewN ?_ _ | (with_reducible refine below_step (by assumption) ?side ?_; case side => (first | omega | (with_reducible exact Below.size (by assumption)) | (simp; done) | (simp; omega))))))).mono ?_
  rw [ev_a2]
  rintro e w4 ⟨rfl, hb4⟩
  obtain ⟨hc4, hf4⟩ := bcell hb4
  have zs4 := hb4.size
  (try simp at zs4)
  have p4 := fun i => (hc4 w1.heap.size i (by first | omega | (simp; done) | (simp; omega))).trans ((World.cell?_alloc_lt _ _ ⟨w1.heap.size, i, none⟩ (by omega)).trans (p3 i))
  have r4 := fun i => (hc4 (w1.heap.size + 1) i (by first | omega | (simp; done) | (simp; omega))).trans ((World.cell?_alloc_lt _ _ ⟨w1.heap.size + 1, i, none⟩ (by omega)).trans (r3 i))
  have t4 := fun i => (hf4 (w1.heap.size + 1) i (by first | omega | (simp; done) | (simp; omega))).trans (show _ = false by simp only [frozen?_alloc_cells]; exact t3 i)
  have b4 : Below w1.heap.size w1 w4 := by (repeat first | with_reducible assumption | with_reducible exact Below.refl _ _ | (with_reducible refine Below.alloc ?_ ?side _; case side => (first | omega | (with_reducible exact Below.size (by assumption)) | (simp; done) | (simp; omega))) | (with_reducible refine Below.setCell ?_ ?side _; case side => (first | omega | (with_reducible exact Below.size (by assumption)) | (simp; done) | (simp; omega))) | with_reducible refine Below.drew ?_ | with_reducible refine below_drewN ?_ _ | (with_reducible refine below_step (by assumption) ?side ?_; case side => (first | omega | (with_reducible exact Below.size (by assumption)) | (simp; done) | (simp; omega))))
  have m4 : w1.heap.size < w4.heap.size := by omega
  have n4 : w1.heap.size + 1 < w4.heap.size := by omega
  have hb4x := hb4
  clear hc4 hf4 hb4
  have q4 := fun i => (hb4x.cell (p := ⟨w3.heap.size, i, none⟩) (by first | omega | (simp; done) | (simp; omega))).trans ((al1_0 rfl).2.1 i)
  clear p3 r3 t3 b3
  go_wp2_with fail
  refine (Line_c A2 A3 3 c2 5 c3 1 4 exPl exLc _ (by omega) (by omega) (H3.out.later (by (repeat first | with_reducible assumption | with_reducible exact Below.refl _ _ | (with_reducible refine Below.alloc ?_ ?side _; case side => (first | omega | (with_reducible exact Below.size (by assumption)) | (simp; done) | (simp; omega))) | (with_reducible refine Below.setCell ?_ ?side _; case side => (first | omega | (with_reducible exact Below.size (by assumption)) | (simp; done) | (simp; omega))) | with_reducible refine Below.drew ?_ | with_reducible refine below_drewN ?_ _ | (with_reducible refine below_step (by assumption) ?side ?_; case side => (first | omega | (with_reducible exact Below.size (by assumption)) | (simp; done) | (simp; omega)))))) (H4.out.later (by (repeat first | with_reducible assumption | with_reducible exact Below.refl _ _ | (with_reducible refine Below.alloc ?_ ?side _; case side => (first | omega | (with_reducible exact Below.size (by assumption)) | (simp; done) | (simp; omega))) | (with_reducible refine Below.setCell ?_ ?side _; case side => (first | omega | (with_reducible exact Below.size (by assumption)) | (simp; done) | (simp; omega))) | with_reducible refine Below.drew ?_ | with_reducible refine below_drewN ?_ _ | (with_reducible refine below_step (by assumption) ?side ?_; case side => (first | omega | (with_reducible exact Below.size (by assumption)) | (simp; done) | (simp; omega))))))).mono ?_
  rw [ev_a3]
  rintro e w5 ⟨rfl, hb5⟩
  obtain ⟨hc5, hf5⟩ := bcell hb5
  have zs5 := hb5.size
  simp only [World.size_alloc, World.size_setCell] at zs5
  have q5 := fun i => (hc5 w3.heap.size i (by first | omega | (simp; done) | (simp; omega))).trans ((World.cell?_alloc_lt _ _ ⟨w3.heap.size, i, none⟩ (by first | (simp; done) | (simp; omega))).trans ((World.cell?_setCell_other _ _ _ _ (by first | (simp; done) | (simp; omega))).trans (q4 i)))
  have u5 : ∀ i, w5.cell? ⟨w4.heap.size, i, none⟩ = #[Value.int .i64 3, .int .i64 5][i]? := fun i => (hc5 w4.heap.size i (by first | omega | (simp; done) | (simp; omega))).trans (by simpa using World.cell?_alloc_new (w4.setCell ⟨w1.heap.size + 1, 2, none⟩ (.int .i64 1)) #[Value.int .i64 3, .int .i64 5] 29 i)
  have r5a := (hc5 (w1.heap.size + 1) 0 (by first | omega | (simp; done) | (simp; omega))).trans ((World.cell?_alloc_lt _ _ ⟨w1.heap.size + 1, 0, none⟩ (by first | (simp; done) | (simp; omega))).trans ((World.cell?_setCell_other _ _ _ _ (by simp)).trans (r4 0)))
  have r5b := (hc5 (w1.heap.size + 1) 1 (by first | omega | (simp; done) | (simp; omega))).trans ((World.cell?_alloc_lt _ _ ⟨w1.heap.size + 1, 1, none⟩ (by first | (simp; done) | (simp; omega))).trans ((World.cell?_setCell_other _ _ _ _ (by simp)).trans (r4 1)))
  have r5c := (hc5 (w1.heap.size + 1) 2 (by first | omega | (simp; done) | (simp; omega))).trans ((World.cell?_alloc_lt _ _ ⟨w1.heap.size + 1, 2, none⟩ (by first | (simp; done) | (simp; omega))).trans (World.cell?_setCell_same _ _ (.int .i64 1) (r4 2)))
  have b5 : Below w1.heap.size w1 w5 := by (repeat first | with_reducible assumption | with_reducible exact Below.refl _ _ | (with_reducible refine Below.alloc ?_ ?side _; case side => (first | omega | (with_reducible exact Below.size (by assumption)) | (simp; done) | (simp; omega))) | (with_reducible refine Below.setCell ?_ ?side _; case side => (first | omega | (with_reducible exact Below.size (by assumption)) | (simp; done) | (simp; omega))) | with_reducible refine Below.drew ?_ | with_reducible refine below_drewN ?_ _ | (with_reducible refine below_step (by assumption) ?side ?_; case side => (first | omega | (with_reducible exact Below.size (by assumption)) | (simp; done) | (simp; omega))))
  have m5 : w1.heap.size < w5.heap.size := by omega
  have n5 : w1.heap.size + 1 < w5.heap.size := by omega
  have k5 : w3.heap.size < w5.heap.size := by omega
  have l5 : w4.heap.size < w5.heap.size := by omega
  clear hc5 hf5 hb5 p4 r4 t4 q4 hb4x b4
  go_wp2_with fail
  refine (Strange_c A2 A3 3 c2 5 c3 1 exPl exLc _ (by omega) (by omega) (H3.out.later (by (repeat first | with_reducible assumption | with_reducible exact Below.refl _ _ | (with_reducible refine Below.alloc ?_ ?side _; case side => (first | omega | (with_reducible exact Below.size (by assumption)) | (simp; done) | (simp; omega))) | (with_reducible refine Below.setCell ?_ ?side _; case side => (first | omega | (with_reducible exact Below.size (by assumption)) | (simp; done) | (simp; omega))) | with_reducible refine Below.drew ?_ | with_reducible refine below_drewN ?_ _ | (with_reducible refine below_step (by assumption) ?side ?_; case side => (first | omega | (with_reducible exact Below.size (by assumption)) | (simp; done) | (simp; omega)))))) (H4.out.later (by (repeat first | with_reducible assumption | with_reducible exact Below.refl _ _ | (with_reducible refine Below.alloc ?_ ?side _; case side => (first | omega | (with_reducible exact Below.size (by assumption)) | (simp; done) | (simp; omega))) | (with_reducible refine Below.setCell ?_ ?side _; case side => (first | omega | (with_reducible exact Below.size (by assumption)) | (simp; done) | (simp; omega))) | with_reducible refine Below.drew ?_ | with_reducible refine below_drewN ?_ _ | (with_reducible refine below_step (by assumption) ?side ?_; case side => (first | omega | (with_reducible exact Below.size (by assumption)) | (simp; done) | (simp; omega))))))).mono ?_
  rw [ev_strC]
  rintro e w6 ⟨hb6, (⟨hne, -⟩ | ⟨-, A, c, rfl, hI⟩)⟩
  · exact absurd ev_askC hne
  have HI := Lib.hid hI
  obtain ⟨hc6, hf6⟩ := bcell hb6
  have zs6 := hb6.size
  simp only [World.size_alloc] at zs6
  have q6 := fun i => (hc6 w3.heap.size i (by first | omega | (simp; done) | (simp; omega))).trans ((World.cell?_alloc_lt _ _ ⟨w3.heap.size, i, none⟩ k5).trans (q5 i))
  have u6 := fun i => (hc6 w4.heap.size i (by first | omega | (simp; done) | (simp; omega))).trans ((World.cell?_alloc_lt _ _ ⟨w4.heap.size, i, none⟩ l5).trans (u5 i))
  have v6 := fun i => (hc6 w5.heap.size i (by first | omega | (simp; done) | (simp; omega))).trans ((al1_0 rfl).2.1 i)
  have b6 : Below w1.heap.size w1 w6 := by (repeat first | with_reducible assumption | with_reducible exact Below.refl _ _ | (with_reducible refine Below.alloc ?_ ?side _; case side => (first | omega | (with_reducible exact Below.size (by assumption)) | (simp; done) | (simp; omega))) | (with_reducible refine Below.setCell ?_ ?side _; case side => (first | omega | (with_reducible exact Below.size (by assumption)) | (simp; done) | (simp; omega))) | with_reducible refine Below.drew ?_ | with_reducible refine below_drewN ?_ _ | (with_reducible refine below_step (by assumption) ?side ?_; case side => (first | omega | (with_reducible exact Below.size (by assumption)) | (simp; done) | (simp; omega))))
  clear hc6 hf6 hb6 q5 u5 r5a r5b r5c hI b5
  go_wp2_with fail
  refine (SameInts_c_q11 A (some ⟨w6.heap.size, 0, none⟩) 1 1 c 1 [4] [4] _ (by omega) (by omega) (HI.out.later (by (repeat first | with_reducible assumption | with_reducible exact Below.refl _ _ | (with_reducible refine Below.alloc ?_ ?side _; case side => (first | omega | (with_reducible exact Below.size (by assumption)) | (simp; done) | (simp; omega))) | (with_reducible refine Below.setCell ?_ ?side _; case side => (first | omega | (with_reducible exact Below.size (by assumption)) | (simp; done) | (simp; omega))) | with_reducible refine Below.drew ?_ | with_reducible refine below_drewN ?_ _ | (with_reducible refine below_step (by assumption) ?side ?_; case side => (first | omega | (with_reducible exact Below.size (by assumption)) | (simp; done) | (simp; omega)))))) (ints_iff.2 (sl_new encI_len rfl rfl rfl))).mono ?_
  rw [ev_same]
  rintro e w7 ⟨rfl, hb7⟩
  go_wp2
  go_ret
  refine ⟨rfl, ?_⟩
  have zz := hb1.size
  refine hb1.trans (Below.mono ?_ zz)
  exact (b6.trans (((Below.refl _ _).alloc b6.size _).trans (hb7.mono (by simp; have := b6.size; omega))))

end Go.Proofs.Ytdhlnlmhdacblaa
