/- A store that the call itself makes; Copy of the specification (layer 1). -/
import Derived.Handy
import Derived.Test.YtdhlnlmhdacblaaTs10
import Derived.Test.YtdhlnlmhdacblaaTs21
namespace Go.Proofs.Ytdhlnlmhdacblaa
open Go.RowKit
open Go.Sort (grow)
set_option linter.unusedVariables false
set_option linter.unusedSimpArgs false

theorem pmAt_lt {hs : List Pm} {h : Pm} {k : Nat} (hk : k < hs.length) : pmAt (hs ++ [h]) k = pmAt hs k := by
  unfold pmAt; rw [List.getD_eq_getElem?_getD, List.getD_eq_getElem?_getD, List.getElem?_append_left hk]
theorem pmAt_eq {hs : List Pm} {h : Pm} : pmAt (hs ++ [h]) hs.length = h := by
  unfold pmAt; rw [List.getD_eq_getElem?_getD, List.getElem?_append_right (Nat.le_refl _), Nat.sub_self]; rfl
theorem pcAt_lt {hs : List Pc} {h : Pc} {k : Nat} (hk : k < hs.length) : pcAt (hs ++ [h]) k = pcAt hs k := by
  unfold pcAt; rw [List.getD_eq_getElem?_getD, List.getD_eq_getElem?_getD, List.getElem?_append_left hk]
theorem pcAt_eq {hs : List Pc} {h : Pc} : pcAt (hs ++ [h]) hs.length = h := by
  unfold pcAt; rw [List.getD_eq_getElem?_getD, List.getElem?_append_right (Nat.le_refl _), Nat.sub_self]; rfl
/-- pieces that the call itself makes -/
structure OwnPs (base : Nat) (w : World) (v : Value) (n : Nat) (ms : List Pm) (ps : List Pc) : Prop where
  own : w.ownsRow base 38 2 v n (ms.flatMap encP)
  ml : ms.length = n
  pl : ps.length = n
  lg : ∀ k, k < n → (pmAt ms k).long = (pcAt ps k).long
  inn : ∀ k, k < n → IntsAt w (pmAt ms k).h.A (pmAt ms k).h.n (pcAt ps k).hs ∧ ∀ a, (pmAt ms k).h.A = some a → base ≤ a.block ∧ v.ownBlock ≠ some a.block ∧ a.block < w.heap.size
section
variable {base : Nat} {w w' : World} {v : Value} {n : Nat} {ms : List Pm} {ps : List Pc}
theorem OwnPs.nil (w : World) (base : Nat) : OwnPs base w (.slice none 0 0) 0 [] [] :=
  ⟨World.ownsRow_nil w base _ 2, rfl, rfl, fun k hk => absurd hk (by omega), fun k hk => absurd hk (by omega)⟩
theorem OwnPs.later (h : OwnPs base w v n ms ps) (hb : Below w.heap.size w w') : OwnPs base w' v n ms ps :=
  ⟨own_below h.own hb, h.ml, h.pl, h.lg, fun k hk => ⟨(h.inn k hk).1.later hb, fun a ha => ⟨((h.inn k hk).2 a ha).1, ((h.inn k hk).2 a ha).2.1, Nat.lt_of_lt_of_le ((h.inn k hk).2 a ha).2.2 hb.size⟩⟩⟩
theorem OwnPs.at_ (h : OwnPs base w v n ms ps) : ∃ A c, v = .slice A n c ∧ PcsAt w A n ms ps := by
  obtain ⟨A, c, rfl, -, hsl⟩ := SlAt.of_own (d := (⟨0, ⟨none, 0, 0⟩⟩ : Pm)) encP_len h.own h.ml
  exact ⟨A, c, rfl, hsl, h.pl, h.lg, fun k hk => (h.inn k hk).1⟩
/-- a store elsewhere -/
theorem OwnPs.far (h : OwnPs base w v n ms ps) {p : Addr} (hp : p.block < base) (u : Value) : OwnPs base (w.setCell p u) v n ms ps := by
  refine ⟨own_set h.own (fun k hk => by have := (h.own.lt k hk).1; omega), h.ml, h.pl, h.lg, fun k hk => ⟨?_, fun a ha => ⟨((h.inn k hk).2 a ha).1, ((h.inn k hk).2 a ha).2.1, by simpa using ((h.inn k hk).2 a ha).2.2⟩⟩⟩
  have h1 := (h.inn k hk).1
  refine ⟨h1.1, fun hn => ?_⟩
  obtain ⟨g, off, e, hg, hc⟩ := h1.2 hn
  refine ⟨g, off, e, by simpa using hg, fun j hj i u hu => (World.cell?_setCell_other _ _ _ _ (by
    have k1 := ((h.inn k hk).2 _ e).1
    intro e'
    have k2 := congrArg Addr.block e'
    simp only at k1 k2
    omega)).trans (hc j hj i u hu)⟩
theorem OwnPs.push (h : OwnPs base w v n ms ps) {o : Obj} {v' : Value} {x : Pm} {y : Pc} (hxy : x.long = y.long) (hx : IntsAt w x.h.A x.h.n y.hs) (hne : ∀ a, x.h.A = some a → base ≤ a.block ∧ v.ownBlock ≠ some a.block ∧ a.block < w.heap.size)
    (ho : w'.ownsRow base 38 2 v' (n + 1) ((ms ++ [x]).flatMap encP)) (hg : (w.alloc o).grownBy w' v.ownBlock) (ha : v'.ownBlock = v.ownBlock ∨ v'.ownBlock = some (w.alloc o).heap.size) : OwnPs base w' v' (n + 1) (ms ++ [x]) (ps ++ [y]) := by
  have hsz := hg.size
  simp only [World.size_alloc] at hsz
  have one : ∀ (z : Hd) (zs : List Int), IntsAt w z.A z.n zs → (∀ a, z.A = some a → base ≤ a.block ∧ v.ownBlock ≠ some a.block ∧ a.block < w.heap.size) → IntsAt w' z.A z.n zs ∧ ∀ a, z.A = some a → base ≤ a.block ∧ v'.ownBlock ≠ some a.block ∧ a.block < w'.heap.size := by
    intro z zs h1 h2
    refine ⟨IntsAt.grown (h1.later ((Below.refl _ _).alloc (Nat.le_refl _) o)) hg fun a e => (h2 a e).2.1, fun a e => ⟨(h2 a e).1, ?_, by have := (h2 a e).2.2; omega⟩⟩
    rcases ha with ha | ha
    · rw [ha]; exact (h2 a e).2.1
    · rw [ha]
      intro e'
      have h3 := (h2 a e).2.2
      have h4 := Option.some.inj e'
      simp at h4
      omega
  have e1 := pmAt_eq (hs := ms) (h := x)
  have e2 := pcAt_eq (hs := ps) (h := y)
  rw [h.ml] at e1
  rw [h.pl] at e2
  refine ⟨ho, by simp [h.ml], by simp [h.pl], fun k hk => ?_, fun k hk => ?_⟩
  · rcases Nat.lt_succ_iff_lt_or_eq.1 hk with h' | rfl
    · rw [pmAt_lt (by rw [h.ml]; exact h'), pcAt_lt (by rw [h.pl]; exact h')]
      exact h.lg k h'
    · rw [e1, e2]; exact hxy
  · rcases Nat.lt_succ_iff_lt_or_eq.1 hk with h' | rfl
    · rw [pmAt_lt (by rw [h.ml]; exact h'), pcAt_lt (by rw [h.pl]; exact h')]
      exact one _ _ (h.inn k h').1 (h.inn k h').2
    · rw [e1, e2]
      exact one _ _ hx hne
end
/-- a store that the call itself makes: its bars lie below mid, its pieces from mid on -/
structure OwnSt (base mid : Nat) (A1 : Option Addr) (c1 : Nat) (A2 : Option Addr) (c2 nb np : Nat) (bs : List Br) (ms : List Pm) (ps : List Pc) (W : World) : Prop where
  bar : W.ownsRow base 35 2 (.slice A1 nb c1) nb (bs.flatMap encB)
  bl : bs.length = nb
  bm : ∀ g, (Value.slice A1 nb c1).ownBlock = some g → g < mid
  le : base ≤ mid
  mh : mid ≤ W.heap.size
  pcs : OwnPs mid W (.slice A2 np c2) np ms ps
theorem OwnSt.later {base mid : Nat} {A1 : Option Addr} {c1 : Nat} {A2 : Option Addr} {c2 nb np : Nat} {bs : List Br} {ms : List Pm} {ps : List Pc} {W W' : World} (h : OwnSt base mid A1 c1 A2 c2 nb np bs ms ps W) (hb : Below W.heap.size W W') : OwnSt base mid A1 c1 A2 c2 nb np bs ms ps W' :=
  ⟨own_below h.bar hb, h.bl, h.bm, h.le, Nat.le_trans h.mh hb.size, h.pcs.later hb⟩
theorem OwnSt.st {base mid : Nat} {A1 : Option Addr} {c1 : Nat} {A2 : Option Addr} {c2 nb np : Nat} {bs : List Br} {ms : List Pm} {ps : List Pc} {W : World} (h : OwnSt base mid A1 c1 A2 c2 nb np bs ms ps W) : BrsAt W A1 nb bs ∧ PcsAt W A2 np ms ps := by
  obtain ⟨_, _, e, hp⟩ := h.pcs.at_
  cases e
  exact ⟨sl_of_own encB_len h.bar h.bl, hp⟩
theorem brE : ElemT Try.prog 22 35 2 16 := by
  obtain ⟨i0, hi0, hz0, hz1, hz2⟩ := info_parts (P := Try.prog) (show (Try.prog.info? 35).map (fun i => (i.zero, i.size, i.bytes)) = some (some (.agg #[.int .i64 0, .int .i64 0]), 2, 16) by kernel_rfl)
  exact ⟨Try.underlying22, ⟨i0, _, hi0, hz0, hz1, hz2, rfl⟩, by omega, by omega⟩
theorem pcE : ElemT Try.prog 23 38 2 32 := by
  obtain ⟨i0, hi0, hz0, hz1, hz2⟩ := info_parts (P := Try.prog) (show (Try.prog.info? 38).map (fun i => (i.zero, i.size, i.bytes)) = some (some (.agg #[.int .i64 0, .slice none 0 0]), 2, 32) by kernel_rfl)
  exact ⟨Try.underlying23, ⟨i0, _, hi0, hz0, hz1, hz2, rfl⟩, by omega, by omega⟩
theorem own_belowB {w w' : World} {B base : Nat} {e : TypeId} {size n : Nat} {v : Value} {xs : List Value} (h : w.ownsRow base e size v n xs) (hb : Below B w w') (hv : ∀ g, v.ownBlock = some g → g < B) : w'.ownsRow base e size v n xs := by
  obtain ⟨h1, h2⟩ := h
  refine ⟨h1, ?_⟩
  rcases h2 with h2 | ⟨g, cap, cur, rfl, hg, hh, r⟩
  · exact Or.inl h2
  · exact Or.inr ⟨g, cap, cur, rfl, hg, (hb.block g (hv g rfl)).trans hh, r⟩
theorem ps_take {ps : List Pc} {k : Nat} (h : k < ps.length) : ps.take (k + 1) = ps.take k ++ [pcAt ps k] := by
  unfold pcAt
  rw [List.take_add_one, List.getD_eq_getElem?_getD, List.getElem?_eq_getElem h]; rfl
set_option maxRecDepth 100000 in
set_option maxHeartbeats 6400000 in
theorem Copy_c (Ab Ap : Option Addr) (nb cb np cp : Nat) (kf wrg : Int) (bs : List Br) (ms : List Pm) (ps : List Pc) (w : World) (h1 : nb ≤ 40) (h2 : np ≤ 40) (h3 : ∀ k, k < np → (pcAt ps k).hs.length ≤ 40) (HB : BrsAt w Ab nb bs) (HP : PcsAt w Ap np ms ps) :
    Calls Try.prog 9 #[.agg #[.slice Ab nb cb, .int .i64 kf, .slice Ap np cp, .int .i64 wrg]] w fun e w' => ∃ A1 c1 A2 c2 ms' mid, e = .returned (.agg #[.slice A1 nb c1, .int .i64 kf, .slice A2 np c2, .int .i64 wrg]) ∧ OwnSt w.heap.size mid A1 c1 A2 c2 nb np bs ms' ps w' ∧ Below w.heap.size w w' := by
  have HBI := Lib.hid HB
  have HPI := Lib.hid HP
  have H3 := Lib.hid h3
  have hPl := HP.pl
  clear HB HP h3
  go_enter Try.func9, Try.ntmps9
  go_upto_region 2 with (fail)
  go_name_world X hX
  have BX : Below w.heap.size w X := (al3 hX).1
  have zX : X.heap.size = w.heap.size + 3 := (al3 hX).2
  have P0 := (al3_0 hX).2.1
  have K3 := Lib.hid (by rw [← hX]; have h := Blk.new ((w.alloc (.cells #[.slice Ab nb cb, .int .i64 kf, .slice Ap np cp, .int .i64 wrg] 25)).alloc (.cells #[.slice none 0 0, .int .i64 0, .slice none 0 0, .int .i64 0] 25)) 25 #[.slice Ab nb cb, .int .i64 kf, .slice Ap np cp, .int .i64 wrg]; simp only [World.size_alloc] at h; exact h : Blk X (w.heap.size + 1 + 1) 25 #[.slice Ab nb cb, .int .i64 kf, .slice Ap np cp, .int .i64 wrg])
  have K2 := Lib.hid (by rw [← hX]; have h := (Blk.new (w.alloc (.cells #[.slice Ab nb cb, .int .i64 kf, .slice Ap np cp, .int .i64 wrg] 25)) 25 #[.slice none 0 0, .int .i64 0, .slice none 0 0, .int .i64 0]).alloc (.cells #[.slice Ab nb cb, .int .i64 kf, .slice Ap np cp, .int .i64 wrg] 25); simp only [World.size_alloc] at h; exact h : Blk X (w.heap.size + 1) 25 #[.slice none 0 0, .int .i64 0, .slice none 0 0, .int .i64 0])
  have n0 : w.heap.size < X.heap.size := by omega
  have n1 : w.heap.size + 1 < X.heap.size := by omega
  have n2 : w.heap.size + 1 + 1 < X.heap.size := by omega
  have q2 := K3.out.cell
  have f2 := K3.out.frozen
  replace zX := Lib.hid zX
  clear hX
  go_upto_region 4 with (at_builtin; go_must (refine wpList_append_T _ (d := (⟨0, 0⟩ : Br)) rfl (.tmp 6) (.tmp 8) _ rfl X.heap.size _ 2 16 brE encB_len encB_one (.slice (some ⟨X.heap.size, 0, none⟩) 0 0) (some X.heap.size) 0 [] rfl rfl ?ow Ab nb cb bs rfl ?sl (by omega) ?sz ?_; (case ow => exact own_empty (by first | (simp; done) | (simp; omega)) (by simp)); (case sz => go_size); (case sl => exact (HBI.out.later (by (repeat first | with_reducible assumption | with_reducible exact Below.refl _ _ | (with_reducible refine Below.alloc ?_ ?side _; case side => (first | omega | (with_reducible exact Below.size (by assumption)) | (simp; done) | (simp; omega))) | (with_reducible refine Below.setCell ?_ ?side _; case side => (first | omega | (with_reducible exact Below.size (by assumption)) | (simp; done) | (simp; omega))) | with_reducible refine Below.drew ?_ | with_reducible refine below_drewN ?_ _ | (with_reducible refine below_step (by assumption) ?side ?_; case side => (first | omega | (with_reducible exact Below.size (by assumption)) | (simp; done) | (simp; omega))))))); (rintro v8 w8 ho8 hg8 ha8); (rw [Nat.zero_add, List.nil_append] at ho8); (obtain ⟨A8, C8, rfl, -, -⟩ := SlAt.of_own (d := (⟨0, 0⟩ : Br)) encB_len ho8 HBI.out.1); (have hb8 : Below X.heap.size X w8 := (Below.grown (by (repeat first | with_reducible assumption | with_reducible exact Below.refl _ _ | (with_reducible refine Below.alloc ?_ ?side _; case side => (first | omega | (with_reducible exact Below.size (by assumption)) | (simp; done) | (simp; omega))) | (with_reducible refine Below.setCell ?_ ?side _; case side => (first | omega | (with_reducible exact Below.size (by assumption)) | (simp; done) | (simp; omega))) | with_reducible refine Below.drew ?_ | with_reducible refine below_drewN ?_ _ | (with_reducible refine below_step (by assumption) ?side ?_; case side => (first | omega | (with_reducible exact Below.size (by assumption)) | (simp; done) | (simp; omega))))) hg8 (by go_size) (fun k hk => (by cases hk; omega)))); (have hO8 := Lib.hid ho8); (have k8 := (K3.out.below hb8 n2)); (have c8 := k8.cell); (have f8 := k8.frozen); (have K8 := Lib.hid k8); (clear ho8 ha8 hg8 k8 q2 f2)))
  go_name_world Y hY
  have z8 := hb8.size
  have B8 : Below w.heap.size w w8 := BX.trans (hb8.mono (by omega))
  have hbl : ∀ g, (Value.slice A8 nb C8).ownBlock = some g → X.heap.size ≤ g ∧ g < w8.heap.size := fun g hg => hO8.out.lt g hg
  have HBL := Lib.hid hbl
  have zY : Y.heap.size = w8.heap.size := by rw [← hY]; simp
  have KY := Lib.hid (by rw [← hY]; have h := (K8.out.set_ 0 (.slice A8 nb C8)).set_ 2 (.slice none 0 0); simpa using h : Blk Y (w.heap.size + 1 + 1) 25 #[.slice A8 nb C8, .int .i64 kf, .slice none 0 0, .int .i64 wrg])
  have OY := Lib.hid (by rw [← hY]; exact own_set (own_set hO8.out (fun g hg => by have := (HBL.out g hg).1; show g ≠ w.heap.size + 1 + 1; omega)) (fun g hg => by have := (HBL.out g hg).1; show g ≠ w.heap.size + 1 + 1; omega) : Y.ownsRow X.heap.size 35 2 (.slice A8 nb C8) nb (bs.flatMap encB))
  have BY : Below (w.heap.size + 1 + 1) w8 Y := by rw [← hY]; refine Below.setCell (Below.setCell (Below.refl _ _) ?_ _) ?_ _ <;> exact Nat.le_refl _
  have K2Y := Lib.hid ((K2.out.below hb8 n1).below BY (by omega))
  have BwY : Below w.heap.size w Y := B8.trans (BY.mono (by omega))
  have dY := Lib.hid (fun i => (BY.cell (p := ⟨w.heap.size, i, none⟩) (by show w.heap.size < _; omega)).trans ((hb8.cell (p := ⟨w.heap.size, i, none⟩) n0).trans (P0 i)))
  have nY2 : w.heap.size + 1 + 1 < Y.heap.size := by omega
  have nY0 : w.heap.size < Y.heap.size := by omega
  have HzY := Lib.hid zY
  have own0 := Lib.hid (OwnPs.nil Y Y.heap.size)
  clear hY hbl c8 f8 P0 zY K8 hO8 K3 BY B8
  go_wp2
  go_loopw [4] (fun i (wr : World) => ∃ (k : Nat) (v : Value) (ms' : List Pm), k ≤ np ∧ i = .int .i64 k ∧ Hid (Blk wr (w.heap.size + 1 + 1) 25 #[.slice A8 nb C8, .int .i64 kf, v, .int .i64 wrg]) ∧ Hid (OwnPs Y.heap.size wr v k ms' (ps.take k)) ∧ Hid (wr.ownsRow X.heap.size 35 2 (.slice A8 nb C8) nb (bs.flatMap encB)) ∧ Below (w.heap.size + 1 + 1) Y wr) (fun i _ => np - (intOf i).toNat)
  case atStart => exact ⟨0, _, [], by omega, rfl, KY, by show OwnPs _ _ _ _ _ _; rw [List.take_zero]; exact own0.out, OY, Below.refl _ _⟩
  case round =>
    obtain ⟨k, v, ms', hk, rfl, HK, HO, HOB, hb⟩ := hrel
    have zb := hb.size
    have dd := fun j => (hb.cell (p := ⟨w.heap.size, j, none⟩) (by show w.heap.size < _; omega)).trans (dY.out j)
    have hbw : Below w.heap.size w wr := BwY.trans (hb.mono (by omega))
    by_cases hlt : k < np
    · have hqB : decide ((k : Int) < np) = true := by simp; omega
      have hPK := HPI.out.later hbw
      obtain ⟨gp, o, e, hgp, x0, x1, hI⟩ := hPK.get hlt
      have hgp' : gp < w.heap.size := by
        obtain ⟨g1, o1, e1, hg1, -⟩ := HPI.out.get hlt
        rw [e] at e1; cases e1; exact hg1
      subst e
      have hln := HPI.out.len hlt
      have h40 := H3.out k hlt
      obtain ⟨hd, hhd⟩ : ∃ h, (pmAt ms k).h = h := ⟨_, rfl⟩
      rw [hhd] at x1 hI hln
      obtain ⟨lg, hlg⟩ : ∃ x, (pcAt ps k).long = x := ⟨_, rfl⟩
      rw [hlg] at x0
      have HLG := Lib.hid hlg
      have hn40 : hd.n ≤ 40 := by omega
      have HI := Lib.hid hI
      have c2 := HK.out.cell 2
      have f2 := HK.out.frozen 2
      have hS0 : ∀ W', Below Y.heap.size wr W' → (∀ j, W'.cell? ⟨w.heap.size, j, none⟩ = #[Value.slice Ab nb cb, .int .i64 kf, .slice (some ⟨gp, o, none⟩) np cp, .int .i64 wrg][j]?) ∧ W'.cell? ⟨w.heap.size + 1 + 1, 2, none⟩ = some v ∧ W'.cell? ⟨gp, o + k * 2, none⟩ = some (.int .i64 lg) ∧ W'.cell? ⟨gp, o + k * 2 + 1, none⟩ = some (.slice hd.A hd.n hd.c) := fun W' h =>
        ⟨fun j => (h.cell (p := ⟨w.heap.size, j, none⟩) nY0).trans (dd j), (h.cell (p := ⟨w.heap.size + 1 + 1, 2, none⟩) nY2).trans c2, (h.cell (p := ⟨gp, o + k * 2, none⟩) (by show gp < _; omega)).trans x0, (h.cell (p := ⟨gp, o + k * 2 + 1, none⟩) (by show gp < _; omega)).trans x1⟩
      have HS := Lib.hid hS0
      have hS := hS0 wr.drew (by (repeat first | with_reducible assumption | with_reducible exact Below.refl _ _ | (with_reducible refine Below.alloc ?_ ?side _; case side => (first | omega | (with_reducible exact Below.size (by assumption)) | (simp; done) | (simp; omega))) | (with_reducible refine Below.setCell ?_ ?side _; case side => (first | omega | (with_reducible exact Below.size (by assumption)) | (simp; done) | (simp; omega))) | with_reducible refine Below.drew ?_ | with_reducible refine below_drewN ?_ _ | (with_reducible refine below_step (by assumption) ?side ?_; case side => (first | omega | (with_reducible exact Below.size (by assumption)) | (simp; done) | (simp; omega)))))
      clear hhd hln hPK hI hlg hS0 x0 x1 c2
      go_wp2
      clear dd
      refine wp_region_L (by kernel_rfl) (fun W' => (∀ j, W'.cell? ⟨w.heap.size, j, none⟩ = #[Value.slice Ab nb cb, .int .i64 kf, .slice (some ⟨gp, o, none⟩) np cp, .int .i64 wrg][j]?) ∧ W'.cell? ⟨w.heap.size + 1 + 1, 2, none⟩ = some v ∧ W'.cell? ⟨gp, o + k * 2, none⟩ = some (.int .i64 lg) ∧ W'.cell? ⟨gp, o + k * 2 + 1, none⟩ = some (.slice hd.A hd.n hd.c)) 20 ?_
      refine wpAnyL_take (i := 0) (v := ?_) rfl (by kernel_rfl) (by kernel_rfl) (by kernel_rfl) (by kernel_rfl) (fun _ _ _ h => h) hS (Or.inl ⟨by rfl, ?_⟩) ?_
      rotate_left 1
      · intro w9 hw9
        obtain ⟨k0, k1, k2, k3⟩ := hw9
        go_simp
        try with_reducible rfl
      simp only [List.getElem_toArray, List.getElem_cons_zero, Act.put, List.setIfInBounds_toArray, List.set_cons_zero, List.set_cons_succ]
      refine wpAnyL_take (i := 1) (v := ?_) rfl (by kernel_rfl) (by kernel_rfl) (by kernel_rfl) (by kernel_rfl) (fun _ _ _ h => h) hS (Or.inl ⟨by rfl, ?_⟩) ?_
      rotate_left 1
      · intro w9 hw9
        obtain ⟨k0, k1, k2, k3⟩ := hw9
        go_simp
        try with_reducible rfl
      simp only [List.getElem_toArray, List.getElem_cons_zero, List.getElem_cons_succ, Act.put, List.setIfInBounds_toArray, List.set_cons_zero, List.set_cons_succ]
      refine wpAnyL_take (i := 2) (v := ?_) rfl (by kernel_rfl) (by kernel_rfl) (by kernel_rfl) (by kernel_rfl) (fun _ _ _ h => h) hS (Or.inl ⟨by rfl, ?_⟩) ?_
      rotate_left 1
      · intro w9 hw9
        obtain ⟨k0, k1, k2, k3⟩ := hw9
        go_simp
        try with_reducible rfl
      simp only [List.getElem_toArray, List.getElem_cons_zero, List.getElem_cons_succ, Act.put, List.setIfInBounds_toArray, List.set_cons_zero, List.set_cons_succ]
      refine wpAnyL_take (i := 3) (v := ?_) rfl (by kernel_rfl) (by kernel_rfl) (by kernel_rfl) (by kernel_rfl) (fun _ _ _ h => h) hS (Or.inl ⟨by rfl, ?_⟩) ?_
      rotate_left 1
      · intro w9 hw9
        obtain ⟨k0, k1, k2, k3⟩ := hw9
        go_simp
        try with_reducible rfl
      simp only [List.getElem_toArray, List.getElem_cons_zero, List.getElem_cons_succ, Act.put, List.setIfInBounds_toArray, List.set_cons_zero, List.set_cons_succ]
      refine wpAnyL_take (i := 4) (v := ?_) rfl (by kernel_rfl) (by kernel_rfl) (by kernel_rfl) (by kernel_rfl) (fun _ _ _ h => h) hS (Or.inl ⟨by rfl, ?_⟩) ?_
      rotate_left 1
      · intro w9 hw9
        obtain ⟨k0, k1, k2, k3⟩ := hw9
        go_simp
        try with_reducible rfl
      simp only [List.getElem_toArray, List.getElem_cons_zero, List.getElem_cons_succ, Act.put, List.setIfInBounds_toArray, List.set_cons_zero, List.set_cons_succ]
      refine wpAnyL_take (i := 5) (v := ?_) rfl (by kernel_rfl) (by kernel_rfl) (by kernel_rfl) (by kernel_rfl) (fun _ _ _ h => h) hS (Or.inl ⟨by rfl, ?_⟩) ?_
      rotate_left 1
      · intro w9 hw9
        obtain ⟨k0, k1, k2, k3⟩ := hw9
        go_simp
        try with_reducible rfl
      simp only [List.getElem_toArray, List.getElem_cons_zero, List.getElem_cons_succ, Act.put, List.setIfInBounds_toArray, List.set_cons_zero, List.set_cons_succ]
      refine wpAnyL_take (i := 6) (v := ?_) rfl (by kernel_rfl) (by kernel_rfl) (by kernel_rfl) (by kernel_rfl) (fun _ _ _ h => h) hS (Or.inl ⟨by rfl, ?_⟩) ?_
      rotate_left 1
      · intro w9 hw9
        obtain ⟨k0, k1, k2, k3⟩ := hw9
        go_simp
        try with_reducible rfl
      simp only [List.getElem_toArray, List.getElem_cons_zero, List.getElem_cons_succ, Act.put, List.setIfInBounds_toArray, List.set_cons_zero, List.set_cons_succ]
      refine wpAnyL_take (i := 7) (v := ?_) rfl (by kernel_rfl) (by kernel_rfl) (by kernel_rfl) (by kernel_rfl) (fun _ _ _ h => h) hS (Or.inl ⟨by rfl, ?_⟩) ?_
      rotate_left 1
      · intro w9 hw9
        obtain ⟨k0, k1, k2, k3⟩ := hw9
        go_simp
        try with_reducible rfl
      simp only [List.getElem_toArray, List.getElem_cons_zero, List.getElem_cons_succ, Act.put, List.setIfInBounds_toArray, List.set_cons_zero, List.set_cons_succ]
      refine wpAnyL_take (i := 9) (v := ?_) rfl (by kernel_rfl) (by kernel_rfl) (by kernel_rfl) (by kernel_rfl) (fun _ _ _ h => h) hS (Or.inl ⟨by rfl, ?_⟩) ?_
      rotate_left 1
      · intro w9 hw9
        obtain ⟨k0, k1, k2, k3⟩ := hw9
        go_simp
        try with_reducible rfl
      simp only [List.getElem_toArray, List.getElem_cons_zero, List.getElem_cons_succ, Act.put, List.setIfInBounds_toArray, List.set_cons_zero, List.set_cons_succ]
      refine wpAnyL_take (i := 10) (v := ?_) rfl (by kernel_rfl) (by kernel_rfl) (by kernel_rfl) (by kernel_rfl) (fun _ _ _ h => h) hS (Or.inl ⟨by rfl, ?_⟩) ?_
      rotate_left 1
      · intro w9 hw9
        obtain ⟨k0, k1, k2, k3⟩ := hw9
        go_simp
        try with_reducible rfl
      simp only [List.getElem_toArray, List.getElem_cons_zero, List.getElem_cons_succ, Act.put, List.setIfInBounds_toArray, List.set_cons_zero, List.set_cons_succ]
      refine wpAnyL_take (i := 11) (v := ?_) rfl (by kernel_rfl) (by kernel_rfl) (by kernel_rfl) (by kernel_rfl) (fun _ _ _ h => h) hS (Or.inl ⟨by rfl, ?_⟩) ?_
      rotate_left 1
      · intro w9 hw9
        obtain ⟨k0, k1, k2, k3⟩ := hw9
        go_simp
        try with_reducible rfl
      simp only [List.getElem_toArray, List.getElem_cons_zero, List.getElem_cons_succ, Act.put, List.setIfInBounds_toArray, List.set_cons_zero, List.set_cons_succ]
      refine wpAnyL_take (i := 12) (v := ?_) rfl (by kernel_rfl) (by kernel_rfl) (by kernel_rfl) (by kernel_rfl) (fun _ _ _ h => h) hS (Or.inl ⟨by rfl, ?_⟩) ?_
      rotate_left 1
      · intro w9 hw9
        obtain ⟨k0, k1, k2, k3⟩ := hw9
        go_simp
        try with_reducible rfl
      simp only [List.getElem_toArray, List.getElem_cons_zero, List.getElem_cons_succ, Act.put, List.setIfInBounds_toArray, List.set_cons_zero, List.set_cons_succ]
      refine wpAnyL_take (i := 13) (v := ?_) rfl (by kernel_rfl) (by kernel_rfl) (by kernel_rfl) (by kernel_rfl) (fun _ _ _ h => h) hS (Or.inl ⟨by rfl, ?_⟩) ?_
      rotate_left 1
      · intro w9 hw9
        obtain ⟨k0, k1, k2, k3⟩ := hw9
        go_simp
        try with_reducible rfl
      simp only [List.getElem_toArray, List.getElem_cons_zero, List.getElem_cons_succ, Act.put, List.setIfInBounds_toArray, List.set_cons_zero, List.set_cons_succ]
      refine wpAnyL_take (i := 14) (v := ?_) rfl (by kernel_rfl) (by kernel_rfl) (by kernel_rfl) (by kernel_rfl) (fun _ _ _ h => h) hS (Or.inl ⟨by rfl, ?_⟩) ?_
      rotate_left 1
      · intro w9 hw9
        obtain ⟨k0, k1, k2, k3⟩ := hw9
        go_simp
        try with_reducible rfl
      simp only [List.getElem_toArray, List.getElem_cons_zero, List.getElem_cons_succ, Act.put, List.setIfInBounds_toArray, List.set_cons_zero, List.set_cons_succ]
      refine wpAnyL_one (i := 8) (by kernel_rfl) rfl (fun K hK => ?_)
      go_simp
      refine hK.out _ _ (fun _ => HS.out _ (by (repeat first | with_reducible assumption | with_reducible exact Below.refl _ _ | (with_reducible refine Below.alloc ?_ ?side _; case side => (first | omega | (with_reducible exact Below.size (by assumption)) | (simp; done) | (simp; omega))) | (with_reducible refine Below.setCell ?_ ?side _; case side => (first | omega | (with_reducible exact Below.size (by assumption)) | (simp; done) | (simp; omega))) | with_reducible refine Below.drew ?_ | with_reducible refine below_drewN ?_ _ | (with_reducible refine below_step (by assumption) ?side ?_; case side => (first | omega | (with_reducible exact Below.size (by assumption)) | (simp; done) | (simp; omega)))))) (fun hS' => ?_)
      clear hK K
      refine wpAnyL_one (i := 15) (by kernel_rfl) rfl (fun K hK => ?_)
      refine step_append_T _ (d := (0 : Int)) rfl (.tmp 27) (.tmp 33) _ rfl wr.heap.size _ 1 8 intE encI_len encI_one (.slice (some ⟨wr.heap.size, 0, none⟩) 0 0) (some wr.heap.size) 0 [] rfl rfl (own_empty (by go_size) (by first | rfl | simp)) hd.A hd.n hd.c (pcAt ps k).hs rfl (ints_iff.1 (HI.out.later (by (repeat first | with_reducible assumption | with_reducible exact Below.refl _ _ | (with_reducible refine Below.alloc ?_ ?side _; case side => (first | omega | (with_reducible exact Below.size (by assumption)) | (simp; done) | (simp; omega))) | (with_reducible refine Below.setCell ?_ ?side _; case side => (first | omega | (with_reducible exact Below.size (by assumption)) | (simp; done) | (simp; omega))) | with_reducible refine Below.drew ?_ | with_reducible refine below_drewN ?_ _ | (with_reducible refine below_step (by assumption) ?side ?_; case side => (first | omega | (with_reducible exact Below.size (by assumption)) | (simp; done) | (simp; omega))))))) (by omega) (by go_size) (fun v9 w9 ho9 hg9 ha9 => ?_)
      rw [Nat.zero_add, List.nil_append] at ho9
      obtain ⟨A9, c9, rfl, -, hs9⟩ := SlAt.of_own (d := (0 : Int)) encI_len ho9 (HI.out.1)
      have hb9 : Below wr.heap.size wr w9 := Below.grown (by (repeat first | with_reducible assumption | with_reducible exact Below.refl _ _ | (with_reducible refine Below.alloc ?_ ?side _; case side => (first | omega | (with_reducible exact Below.size (by assumption)) | (simp; done) | (simp; omega))) | (with_reducible refine Below.setCell ?_ ?side _; case side => (first | omega | (with_reducible exact Below.size (by assumption)) | (simp; done) | (simp; omega))) | with_reducible refine Below.drew ?_ | with_reducible refine below_drewN ?_ _ | (with_reducible refine below_step (by assumption) ?side ?_; case side => (first | omega | (with_reducible exact Below.size (by assumption)) | (simp; done) | (simp; omega))))) hg9 (by go_size) (fun g hg => by cases hg; exact Nat.le_refl _)
      have hS9 := HS.out w9 (hb9.mono zb)
      refine hK.out _ _ (fun _ => hS9) (fun hS' => ?_)
      clear hK K hg9 ha9 hS'
      simp only [List.getElem_toArray, List.getElem_cons_zero, List.getElem_cons_succ, Act.put, List.setIfInBounds_toArray, List.set_cons_zero, List.set_cons_succ]
      have hS := hS9
      have z9 := hb9.size
      have HO9 := Lib.hid ho9
      have HI9 := Lib.hid (ints_iff.2 hs9)
      have HA9 := Lib.hid (fun a e => own_addr ho9 a e)
      clear ho9 hs9
      refine wpAnyL_take (i := 16) (v := ?_) rfl (by kernel_rfl) (by kernel_rfl) (by kernel_rfl) (by kernel_rfl) (fun _ _ _ h => h) hS (Or.inl ⟨by rfl, ?_⟩) ?_
      rotate_left 1
      · intro w9 hw9
        obtain ⟨k0, k1, k2, k3⟩ := hw9
        go_simp
        try with_reducible rfl
      simp only [List.getElem_toArray, List.getElem_cons_zero, List.getElem_cons_succ, Act.put, List.setIfInBounds_toArray, List.set_cons_zero, List.set_cons_succ]
      refine wpAnyL_one (i := 17) (by kernel_rfl) rfl (fun K hK => ?_)
      go_simp
      refine hK.out _ _ (fun _ => HS.out _ (by have := hb9.mono zb; (repeat first | with_reducible assumption | with_reducible exact Below.refl _ _ | (with_reducible refine Below.alloc ?_ ?side _; case side => (first | omega | (with_reducible exact Below.size (by assumption)) | (simp; done) | (simp; omega))) | (with_reducible refine Below.setCell ?_ ?side _; case side => (first | omega | (with_reducible exact Below.size (by assumption)) | (simp; done) | (simp; omega))) | with_reducible refine Below.drew ?_ | with_reducible refine below_drewN ?_ _ | (with_reducible refine below_step (by assumption) ?side ?_; case side => (first | omega | (with_reducible exact Below.size (by assumption)) | (simp; done) | (simp; omega)))))) (fun hS' => ?_)
      clear hK K hS'
      refine wpAnyL_one (i := 18) (by kernel_rfl) rfl (fun K hK => ?_)
      refine step_append_T _ (d := (⟨0, ⟨none, 0, 0⟩⟩ : Pm)) rfl (.tmp 20) (.tmp 36) _ rfl Y.heap.size _ 2 32 pcE encP_len encP_one v v.ownBlock k ms' rfl rfl (own_below HO.out.own (by (repeat first | with_reducible assumption | with_reducible exact Below.refl _ _ | (with_reducible refine Below.alloc ?_ ?side _; case side => (first | omega | (with_reducible exact Below.size (by assumption)) | (simp; done) | (simp; omega))) | (with_reducible refine Below.setCell ?_ ?side _; case side => (first | omega | (with_reducible exact Below.size (by assumption)) | (simp; done) | (simp; omega))) | with_reducible refine Below.drew ?_ | with_reducible refine below_drewN ?_ _ | (with_reducible refine below_step (by assumption) ?side ?_; case side => (first | omega | (with_reducible exact Below.size (by assumption)) | (simp; done) | (simp; omega)))))) _ 1 _ [⟨lg, ⟨A9, hd.n, c9⟩⟩] rfl (sl_new encP_len (by first | rfl | simp) rfl rfl) (by omega) (by go_size) (fun v10 w10 ho10 hg10 ha10 => ?_)
      have hk1 : 0 < k + 1 := by omega
      obtain ⟨g10, d10, rfl, hg0, hg1⟩ := ho10.form hk1
      have hb10 : Below Y.heap.size w9 w10 := Below.grown (by (repeat first | with_reducible assumption | with_reducible exact Below.refl _ _ | (with_reducible refine Below.alloc ?_ ?side _; case side => (first | omega | (with_reducible exact Below.size (by assumption)) | (simp; done) | (simp; omega))) | (with_reducible refine Below.setCell ?_ ?side _; case side => (first | omega | (with_reducible exact Below.size (by assumption)) | (simp; done) | (simp; omega))) | with_reducible refine Below.drew ?_ | with_reducible refine below_drewN ?_ _ | (with_reducible refine below_step (by assumption) ?side ?_; case side => (first | omega | (with_reducible exact Below.size (by assumption)) | (simp; done) | (simp; omega))))) hg10 (by go_size) (own_ge HO.out.own)
      have hb90 : Below Y.heap.size wr w10 := (hb9.mono zb).trans hb10
      have hS10 := HS.out w10 hb90
      refine hK.out _ _ (fun _ => hS10) (fun hS' => ?_)
      clear hK K hS'
      have hS := hS10
      simp only [List.getElem_toArray, List.getElem_cons_zero, List.getElem_cons_succ, Act.put, List.setIfInBounds_toArray, List.set_cons_zero, List.set_cons_succ]
      refine wpAnyL_take (i := 19) (v := ?_) rfl (by kernel_rfl) (by kernel_rfl) (by kernel_rfl) (by kernel_rfl) (fun _ _ _ h => h) hS (Or.inl ⟨by rfl, ?_⟩) ?_
      rotate_left 1
      · intro w9 hw9
        obtain ⟨k0, k1, k2, k3⟩ := hw9
        go_simp
        try with_reducible rfl
      simp only [List.getElem_toArray, List.getElem_cons_zero, List.getElem_cons_succ, Act.put, List.setIfInBounds_toArray, List.set_cons_zero, List.set_cons_succ]
      have d2 := (hb90.cell (p := ⟨w.heap.size + 1 + 1, 2, none⟩) nY2).trans (HK.out.cell 2)
      have e2 := (hb90.frozen (p := ⟨w.heap.size + 1 + 1, 2, none⟩) nY2).trans (HK.out.frozen 2)
      refine wpAnyL_one (i := 20) (by kernel_rfl) rfl (fun K hK => ?_)
      go_simp
      refine hK.out _ _ (fun h => absurd rfl h) (fun _ => ?_)
      refine wpAnyL_done (by kernel_rfl) ?_ _
      have hpush := (HO.out.later hb9).push (x := ⟨lg, ⟨A9, hd.n, c9⟩⟩) (y := pcAt ps k) HLG.out.symm HI9.out (fun a e => ⟨by have := (HA9.out a e).1; omega, fun e' => by have := (HO.out.own.lt _ e').2; have := (HA9.out a e).1; omega, (HA9.out a e).2⟩) ho10 hg10 ha10
      rw [← ps_take (by rw [hPl]; exact hlt)] at hpush
      have HPU := Lib.hid (hpush.far (p := ⟨w.heap.size + 1 + 1, 2, none⟩) nY2 (.slice (some ⟨g10, 0, none⟩) (k + 1) d10))
      have HKK := Lib.hid (by have h := (HK.out.below hb90 nY2).set_ 2 (.slice (some ⟨g10, 0, none⟩) (k + 1) d10); simpa using h : Blk (w10.setCell ⟨w.heap.size + 1 + 1, 2, none⟩ (.slice (some ⟨g10, 0, none⟩) (k + 1) d10)) (w.heap.size + 1 + 1) 25 #[.slice A8 nb C8, .int .i64 kf, .slice (some ⟨g10, 0, none⟩) (k + 1) d10, .int .i64 wrg])
      have HOO := Lib.hid (own_set (p := ⟨w.heap.size + 1 + 1, 2, none⟩) (u := .slice (some ⟨g10, 0, none⟩) (k + 1) d10) (own_belowB HOB.out hb90 (fun g hg => by have := (HBL.out g hg).2; have := HzY.out; omega)) (fun g hg => by have := (HBL.out g hg).1; show g ≠ w.heap.size + 1 + 1; omega))
      have hbn : Below (w.heap.size + 1 + 1) Y (w10.setCell ⟨w.heap.size + 1 + 1, 2, none⟩ (.slice (some ⟨g10, 0, none⟩) (k + 1) d10)) := by
        refine Below.setCell (hb.trans (hb90.mono (by omega))) ?_ _
        exact Nat.le_refl _
      clear hK K hpush ho10 hg10 ha10 d2 e2
      go_wp2
      go_roundw
      case rel => exact ⟨k + 1, _, _, by omega, by go_num, HKK, HPU, HOO, hbn⟩
      case measure => simp [intOf]; omega
    · obtain rfl : np = k := by omega
      have hqB : decide (((np : Nat) : Int) < np) = false := by simp
      have hO := HO.out
      rw [show ps.take np = ps by rw [← hPl]; exact List.take_length] at hO
      have cK := HK.out.cell
      have c2 := fun i => (hb.cell (p := ⟨w.heap.size + 1, i, none⟩) (by show w.heap.size + 1 < _; omega)).trans (K2Y.out.cell i)
      have f2 := fun i => (hb.frozen (p := ⟨w.heap.size + 1, i, none⟩) (by show w.heap.size + 1 < _; omega)).trans (K2Y.out.frozen i)
      have HOF := Lib.hid hO
      obtain ⟨A2, C2, rfl, -⟩ := hO.at_
      clear hO
      go_wp2
      have hb4 := (back4 (.slice A8 nb C8) (.int .i64 kf) (.slice A2 np C2) (.int .i64 wrg) (K2Y.out.below hb (by omega))).1.cell
      have hn1 : w.heap.size + 1 < Y.heap.size := by omega
      have hne : ∀ g, (Value.slice A8 nb C8).ownBlock = some g → g ≠ w.heap.size + 1 := fun g hg => by have := (HBL.out g hg).1; omega
      have hzX := zX.out
      refine bodyPost_ret (v := .agg #[.slice A8 nb C8, .int .i64 kf, .slice A2 np C2, .int .i64 wrg]) (by simp [results, Try.results9, go_sem, hb4 0, hb4 1, hb4 2, hb4 3]) rfl ⟨A8, C8, A2, C2, ms', Y.heap.size, rfl, ⟨own_mono (own_set (own_set (own_set (own_set HOB.out hne) hne) hne) hne) (by omega), HBI.out.1, fun g hg => by have := (HBL.out g hg).2; have := HzY.out; omega, by omega, (by simp; omega), (((HOF.out.far (p := ⟨w.heap.size + 1, 0, none⟩) hn1 _).far (p := ⟨w.heap.size + 1, 1, none⟩) hn1 _).far (p := ⟨w.heap.size + 1, 2, none⟩) hn1 _).far (p := ⟨w.heap.size + 1, 3, none⟩) hn1 _⟩, by (repeat first | with_reducible assumption | with_reducible exact Below.refl _ _ | (with_reducible refine Below.alloc ?_ ?side _; case side => (first | omega | (with_reducible exact Below.size (by assumption)) | (simp; done) | (simp; omega))) | (with_reducible refine Below.setCell ?_ ?side _; case side => (first | omega | (with_reducible exact Below.size (by assumption)) | (simp; done) | (simp; omega))) | with_reducible refine Below.drew ?_ | with_reducible refine below_drewN ?_ _ | (with_reducible refine below_step (by assumption) ?side ?_; case side => (first | omega | (with_reducible exact Below.size (by assumption)) | (simp; done) | (simp; omega))))⟩

end Go.Proofs.Ytdhlnlmhdacblaa
