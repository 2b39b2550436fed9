/- ends of stretch (layer 4): the least and the greatest stretch of some truths. -/
import Derived.Test.YtmmgkmdfecnkdaaQa21
import Derived.Deep.DrawnRows
import Derived.Deep.DeepCutAuto
namespace Go.Proofs.Ytmmgkmdfecnkdaa
open Go.RowKit
open Go.Sort (grow)
set_option linter.unusedVariables false
set_option linter.unusedSimpArgs false

def fr4 (l : List Int) : Int := iAt l 0
def la4 (l : List Int) : Int := iAt l (l.length - 1)
/-- the least and the greatest stretch of a bundle -/
def sp4 (x : Bu4) : Sp := ⟨fr4 x.a.2 - la4 x.b.2, la4 x.a.2 - fr4 x.b.2⟩
def hl4 (a b : Sp) : Sp := ⟨min a.lo b.lo, max a.hi b.hi⟩
theorem hl4_idem (a : Sp) : hl4 a a = a := by unfold hl4; simp
/-- the least and the greatest stretch of the first k -/
def en4 (l : List Bu4) (k : Nat) : Sp :=
  match (l.take k).map sp4 with
  | [] => ⟨0, 0⟩
  | x :: xs => (x :: xs).foldl hl4 x
theorem en4_succ {l : List Bu4} {k : Nat} {y : Bu4} (h : l[k]? = some y) : en4 l (k + 1) = hl4 (if k = 0 then sp4 y else en4 l k) (sp4 y) := by
  unfold en4
  rw [List.take_add_one, h, List.map_append]
  cases k with
  | zero => simp [hl4_idem]
  | succ k =>
    have hl := (List.getElem?_eq_some_iff.1 h).1
    cases e : (l.take (k + 1)).map sp4 with
    | nil =>
      have := congrArg List.length e
      rw [List.length_map, List.length_take, List.length_nil] at this
      omega
    | cons x xs =>
      simp only [Option.toList, List.map_cons, List.map_nil, List.cons_append]
      rw [if_neg (by omega), ← List.cons_append, List.foldl_append]
      rfl
/-- a bundle whose lengths are as they can be -/
structure OkB (x : Bu4) : Prop where
  bn : x.b.2 ≠ []
  an : x.a.2 ≠ []
  b : ∀ n ∈ x.b.2, 1 ≤ n ∧ n ≤ 99999
  a : ∀ n ∈ x.a.2, 1 ≤ n ∧ n ≤ 99999
  bl : x.b.2.length ≤ 99999
  al : x.a.2.length ≤ 99999
theorem tr4_ok {nr nd : Nat} {p : P4} (ok : Ok4 nr nd p) {x : Bu4} (h : x ∈ tr4 p) : OkB x := by
  obtain ⟨⟨-, h1, h2⟩, -⟩ := mem_tr4.1 h
  have hl : ∀ n ∈ ln4 p, 1 ≤ n ∧ n ≤ 99999 := fun n hn => by have := ups_mem.1 hn; have := ok.g; omega
  have hln : (ln4 p).length ≤ 99999 := by rw [ln4_len]; have := ok.g; omega
  have hle : ∀ wh g, g ∈ gr4 p wh x.u → g.2.length ≤ 99999 := fun wh g hg => by rw [(mem_gr4.1 hg).2]; exact Nat.le_trans (List.length_filter_le _ _) hln
  exact ⟨gr4_ne h1, gr4_ne h2, fun n hn => hl n ((gr4_mem h1).1 hn).1, fun n hn => hl n ((gr4_mem h2).1 hn).1, hle _ _ h1, hle _ _ h2⟩
theorem iAt_mem {l : List Int} {k : Nat} (h : k < l.length) : iAt l k ∈ l := by unfold iAt; rw [List.getD_eq_getElem?_getD, List.getElem?_eq_getElem h]; exact List.getElem_mem h
theorem fr4_mem {l : List Int} (h : l ≠ []) : fr4 l ∈ l := iAt_mem (List.length_pos_iff.2 h)
theorem la4_mem {l : List Int} (h : l ≠ []) : la4 l ∈ l := iAt_mem (by have := List.length_pos_iff.2 h; omega)
set_option maxRecDepth 100000 in
set_option maxHeartbeats 3200000 in
theorem ends4_c (A : Option Addr) (n c : Nat) (B0 base : Nat) (hs : List Hb) (l : List Bu4) (w : World) (hn : n ≤ 90000) (HB : BsAt4 B0 base w A n hs l) (hok : ∀ x ∈ l, OkB x) :
    Calls Try.prog 54 #[.slice A n c] w fun e w' => e = .returned (.agg #[.int .i64 (en4 l n).lo, .int .i64 (en4 l n).hi]) ∧ Below w.heap.size w w' := by
  have HBI := Lib.hid HB
  have HXL := Lib.hid HB.xl
  have HOK := Lib.hid hok
  clear HB hok
  go_enter Try.func54, Try.ntmps54
  go_upto_region 2 with (fail)
  go_name_world X hX
  have BX : Below w.heap.size w X := (al2 hX).1
  have zX := (al2 hX).2
  have q0 := (al2_0 hX).2.1
  have f0 := (al2_0 hX).2.2
  have HO0 : Hid (Blk X (w.heap.size + 1) 23 #[.int .i64 (en4 l 0).lo, .int .i64 (en4 l 0).hi]) := by
    rw [← hX]
    have := Blk.new (w.alloc (.cells #[.int .i64 0, .int .i64 0] 23)) 23 #[.int .i64 0, .int .i64 0]
    rw [World.size_alloc] at this
    exact this
  clear hX
  go_wp2_with fail
  go_loopw [11] (fun i (wr : World) => ∃ k : Nat, k ≤ n ∧ i = .int .i64 k ∧ Hid (Off (fun b => b = w.heap.size + 1) X.heap.size X wr) ∧ Hid (Blk wr (w.heap.size + 1) 23 #[.int .i64 (en4 l k).lo, .int .i64 (en4 l k).hi])) (fun i _ => n - (intOf i).toNat)
  case atStart => exact ⟨0, by omega, by simp, Lib.hid .refl, HO0⟩
  case round =>
    obtain ⟨k, hk, rfl, HOr, HEr⟩ := hrel
    have zr := HOr.out.size
    have hw := Lib.hid (HOr.out.below (m := w.heap.size) (fun b e => by omega) (by omega) BX)
    have l0 : w.heap.size < wr.heap.size := by omega
    have l1 : w.heap.size + 1 < wr.heap.size := by omega
    by_cases hkn : k < n
    · have hkB : decide ((k : Int) < n) = true := by simp; omega
      have vk : IntKind.i64.wrap ((k : Int) + 1) = (k : Int) + 1 := IntWalk.i64_in _ (by omega)
      obtain ⟨b, off, hA, hb, hc, hR⟩ := (HBI.out.later hw.out).get hkn
      subst hA
      obtain ⟨x, hx⟩ : ∃ x, bxAt l k = x := ⟨_, rfl⟩
      have hxg : l[k]? = some x := by rw [← hx]; unfold bxAt; rw [List.getD_eq_getElem?_getD, List.getElem?_eq_getElem (by have := HXL.out; omega)]; rfl
      have hxo := HOK.out x (List.mem_of_getElem? hxg)
      have HES := Lib.hid (en4_succ hxg)
      rw [hx] at hR
      obtain ⟨h, hh⟩ : ∃ h, hbAt hs k = h := ⟨_, rfl⟩
      rw [hh] at hR hc
      obtain ⟨-, -, -, rb, ra⟩ := hR
      have c0 := hc 0 _ rfl
      have c1 := hc 1 _ rfl
      have c2 := hc 2 _ rfl
      have c3 := hc 3 _ rfl
      have c4 := hc 4 _ rfl
      have c5 := hc 5 _ rfl
      have c6 := hc 6 _ rfl
      have c7 := hc 7 _ rfl
      rw [Nat.add_zero] at c0
      obtain ⟨⟨u0, u1, u2, u3⟩, bw, ⟨bA, bn, bc⟩, aw, ⟨aA, an, ac⟩⟩ := h
      simp only at c0 c1 c2 c3 c4 c5 c6 c7 rb ra
      have hbl : bn = x.b.2.length := rb.1.1.symm
      have hal : an = x.a.2.length := ra.1.1.symm
      have hbp : 0 < bn := by rw [hbl]; exact List.length_pos_iff.2 hxo.bn
      have hap : 0 < an := by rw [hal]; exact List.length_pos_iff.2 hxo.an
      have hbn : bn ≤ 99999 := by rw [hbl]; exact hxo.bl
      have han : an ≤ 99999 := by rw [hal]; exact hxo.al
      obtain ⟨m1, hm1⟩ : ∃ m, bn - 1 = m := ⟨_, rfl⟩
      obtain ⟨m2, hm2⟩ : ∃ m, an - 1 = m := ⟨_, rfl⟩
      obtain ⟨b1, o1, hA1, hb1, y0⟩ := rb.1.get (k := 0) hbp
      obtain ⟨b1', o1', hA1', -, y1⟩ := rb.1.get (k := m1) (by show m1 < bn; omega)
      obtain ⟨b2, o2, hA2, hb2, z0⟩ := ra.1.get (k := 0) hap
      obtain ⟨b2', o2', hA2', -, z1⟩ := ra.1.get (k := m2) (by show m2 < an; omega)
      simp only at hA1 hA1' hA2 hA2'
      subst hA1
      subst hA2
      cases hA1'
      cases hA2'
      have f1 : iAt x.b.2 0 = fr4 x.b.2 := rfl
      have f2 : iAt x.a.2 0 = fr4 x.a.2 := rfl
      have f3 : iAt x.b.2 m1 = la4 x.b.2 := by unfold la4; rw [← hm1, hbl]
      have f4 : iAt x.a.2 m2 = la4 x.a.2 := by unfold la4; rw [← hm2, hal]
      rw [f1, Nat.add_zero] at y0
      rw [f2, Nat.add_zero] at z0
      rw [f3] at y1
      rw [f4] at z1
      have g1 := hxo.b _ (fr4_mem hxo.bn)
      have g2 := hxo.a _ (fr4_mem hxo.an)
      have g3 := hxo.b _ (la4_mem hxo.bn)
      have g4 := hxo.a _ (la4_mem hxo.an)
      have HSP := Lib.hid (show sp4 x = ⟨fr4 x.a.2 - la4 x.b.2, la4 x.a.2 - fr4 x.b.2⟩ from rfl)
      obtain ⟨fb, hfb⟩ : ∃ t, fr4 x.b.2 = t := ⟨_, rfl⟩
      obtain ⟨fa, hfa⟩ : ∃ t, fr4 x.a.2 = t := ⟨_, rfl⟩
      obtain ⟨lb, hlb⟩ : ∃ t, la4 x.b.2 = t := ⟨_, rfl⟩
      obtain ⟨la, hla⟩ : ∃ t, la4 x.a.2 = t := ⟨_, rfl⟩
      rw [hfb] at y0 g1 HSP
      rw [hfa] at z0 g2 HSP
      rw [hlb] at y1 g3 HSP
      rw [hla] at z1 g4 HSP
      have v1 : IntKind.i64.wrap ((bn : Int) - 1) = (m1 : Nat) := by rw [IntWalk.i64_in _ (by omega)]; omega
      have v2 : IntKind.i64.wrap ((an : Int) - 1) = (m2 : Nat) := by rw [IntWalk.i64_in _ (by omega)]; omega
      have v3 : IntKind.i64.wrap (fa - lb) = fa - lb := IntWalk.i64_in _ (by omega)
      have v4 : IntKind.i64.wrap (la - fb) = la - fb := IntWalk.i64_in _ (by omega)
      have i1 : m1 < bn := by omega
      have i2 : m2 < an := by omega
      have HM := Lib.hid (And.intro hm1 hm2)
      clear hbl hal hm1 hm2 hfb hfa hlb hla hxo hxg hc hh hx f1 f2 f3 f4 rb ra
      go_upto_region 5 with (fail)
      go_name_world Y hY
      have BY : Below wr.heap.size wr Y := (al1 hY).1
      have qY := (al1_0 hY).2.1
      have lY := (al1_0 hY).1
      clear hY
      have hcq := fun p : Regrown => (bcell (below_regrown Y p.d p.os)).1
      refine wp_region_quiet_below (by kernel_rfl) (by kernel_rfl) ?_
      repeat (go_big_quiet_step ((fail)))
      refine wpQuiet_nil ?_
      intro wq hq
      obtain ⟨pq, hq⟩ := hq
      have hbq : Below Y.heap.size Y wq := by rw [hq]; exact below_regrown _ _ _
      clear hq hcq pq
      obtain ⟨hcq, hfq⟩ := bcell hbq
      have zq := hbq.size
      have BQ := BY.trans (hbq.mono BY.size)
      have y0' := (BQ.cell (p := ⟨b1, o1, none⟩) hb1).trans y0
      have y1' := (BQ.cell (p := ⟨b1, o1 + m1, none⟩) hb1).trans y1
      have z0' := (BQ.cell (p := ⟨b2, o2, none⟩) hb2).trans z0
      have z1' := (BQ.cell (p := ⟨b2, o2 + m2, none⟩) hb2).trans z1
      have hb1' := Nat.lt_of_lt_of_le hb1 BQ.size
      have hb2' := Nat.lt_of_lt_of_le hb2 BQ.size
      have HBQ := Lib.hid BQ
      have HEQ := Lib.hid (HEr.out.below BQ l1)
      have HOQ := Lib.hid (HOr.out.then_below BQ (by omega))
      have zq2 := BQ.size
      clear hcq hfq hbq qY y0 y1 z0 z1 BQ BY c0 c1 c2 c3 c4 c5 c6 c7
      have hS : wq.drew.cell? ⟨b1, o1, none⟩ = some (.int .i64 fb) ∧ wq.drew.cell? ⟨b1, o1 + m1, none⟩ = some (.int .i64 lb) ∧ wq.drew.cell? ⟨b2, o2, none⟩ = some (.int .i64 fa) ∧ wq.drew.cell? ⟨b2, o2 + m2, none⟩ = some (.int .i64 la) := ⟨y0', y1', z0', z1'⟩
      go_upto_region 6 with (fail)
      refine wp_region_L (by kernel_rfl) (fun W' => W'.cell? ⟨b1, o1, none⟩ = some (.int .i64 fb) ∧ W'.cell? ⟨b1, o1 + m1, none⟩ = some (.int .i64 lb) ∧ W'.cell? ⟨b2, o2, none⟩ = some (.int .i64 fa) ∧ W'.cell? ⟨b2, o2 + m2, none⟩ = some (.int .i64 la)) 22 ?_
      refine wpAnyL_take (i := 0) (v := ?_) rfl (by kernel_rfl) (by kernel_rfl) (by kernel_rfl) (by kernel_rfl) (fun _ _ _ h => h) hS (Or.inl ⟨by rfl, ?_⟩) ?_
      rotate_left 1
      · intro w9 hw9
        obtain ⟨s0, s1, s2, s3⟩ := hw9
        go_simp
        try with_reducible rfl
      simp only [List.getElem_toArray, List.getElem_cons_zero, Act.put, List.setIfInBounds_toArray, List.set_cons_zero, List.set_cons_succ]
      refine wpAnyL_take (i := 1) (v := ?_) rfl (by kernel_rfl) (by kernel_rfl) (by kernel_rfl) (by kernel_rfl) (fun _ _ _ h => h) hS (Or.inl ⟨by rfl, ?_⟩) ?_
      rotate_left 1
      · intro w9 hw9
        obtain ⟨s0, s1, s2, s3⟩ := hw9
        go_simp
        try with_reducible rfl
      simp only [List.getElem_toArray, List.getElem_cons_zero, List.getElem_cons_succ, Act.put, List.setIfInBounds_toArray, List.set_cons_zero, List.set_cons_succ]
      refine wpAnyL_take (i := 2) (v := ?_) rfl (by kernel_rfl) (by kernel_rfl) (by kernel_rfl) (by kernel_rfl) (fun _ _ _ h => h) hS (Or.inl ⟨by rfl, ?_⟩) ?_
      rotate_left 1
      · intro w9 hw9
        obtain ⟨s0, s1, s2, s3⟩ := hw9
        go_simp
        try with_reducible rfl
      simp only [List.getElem_toArray, List.getElem_cons_zero, List.getElem_cons_succ, Act.put, List.setIfInBounds_toArray, List.set_cons_zero, List.set_cons_succ]
      refine wpAnyL_take (i := 3) (v := ?_) rfl (by kernel_rfl) (by kernel_rfl) (by kernel_rfl) (by kernel_rfl) (fun _ _ _ h => h) hS (Or.inl ⟨by rfl, ?_⟩) ?_
      rotate_left 1
      · intro w9 hw9
        obtain ⟨s0, s1, s2, s3⟩ := hw9
        go_simp
        try with_reducible rfl
      simp only [List.getElem_toArray, List.getElem_cons_zero, List.getElem_cons_succ, Act.put, List.setIfInBounds_toArray, List.set_cons_zero, List.set_cons_succ]
      refine wpAnyL_take (i := 4) (v := ?_) rfl (by kernel_rfl) (by kernel_rfl) (by kernel_rfl) (by kernel_rfl) (fun _ _ _ h => h) hS (Or.inl ⟨by rfl, ?_⟩) ?_
      rotate_left 1
      · intro w9 hw9
        obtain ⟨s0, s1, s2, s3⟩ := hw9
        go_simp
        try with_reducible rfl
      simp only [List.getElem_toArray, List.getElem_cons_zero, List.getElem_cons_succ, Act.put, List.setIfInBounds_toArray, List.set_cons_zero, List.set_cons_succ]
      refine wpAnyL_take (i := 5) (v := ?_) rfl (by kernel_rfl) (by kernel_rfl) (by kernel_rfl) (by kernel_rfl) (fun _ _ _ h => h) hS (Or.inl ⟨by rfl, ?_⟩) ?_
      rotate_left 1
      · intro w9 hw9
        obtain ⟨s0, s1, s2, s3⟩ := hw9
        go_simp
        try with_reducible rfl
      simp only [List.getElem_toArray, List.getElem_cons_zero, List.getElem_cons_succ, Act.put, List.setIfInBounds_toArray, List.set_cons_zero, List.set_cons_succ]
      refine wpAnyL_take (i := 6) (v := ?_) rfl (by kernel_rfl) (by kernel_rfl) (by kernel_rfl) (by kernel_rfl) (fun _ _ _ h => h) hS (Or.inl ⟨by rfl, ?_⟩) ?_
      rotate_left 1
      · intro w9 hw9
        obtain ⟨s0, s1, s2, s3⟩ := hw9
        go_simp
        try with_reducible rfl
      simp only [List.getElem_toArray, List.getElem_cons_zero, List.getElem_cons_succ, Act.put, List.setIfInBounds_toArray, List.set_cons_zero, List.set_cons_succ]
      refine wpAnyL_take (i := 7) (v := ?_) rfl (by kernel_rfl) (by kernel_rfl) (by kernel_rfl) (by kernel_rfl) (fun _ _ _ h => h) hS (Or.inl ⟨by rfl, ?_⟩) ?_
      rotate_left 1
      · intro w9 hw9
        obtain ⟨s0, s1, s2, s3⟩ := hw9
        go_simp
        try with_reducible rfl
      simp only [List.getElem_toArray, List.getElem_cons_zero, List.getElem_cons_succ, Act.put, List.setIfInBounds_toArray, List.set_cons_zero, List.set_cons_succ]
      refine wpAnyL_take (i := 8) (v := ?_) rfl (by kernel_rfl) (by kernel_rfl) (by kernel_rfl) (by kernel_rfl) (fun _ _ _ h => h) hS (Or.inl ⟨by rfl, ?_⟩) ?_
      rotate_left 1
      · intro w9 hw9
        obtain ⟨s0, s1, s2, s3⟩ := hw9
        go_simp
        try with_reducible rfl
      simp only [List.getElem_toArray, List.getElem_cons_zero, List.getElem_cons_succ, Act.put, List.setIfInBounds_toArray, List.set_cons_zero, List.set_cons_succ]
      refine wpAnyL_take (i := 9) (v := ?_) rfl (by kernel_rfl) (by kernel_rfl) (by kernel_rfl) (by kernel_rfl) (fun _ _ _ h => h) hS (Or.inl ⟨by rfl, ?_⟩) ?_
      rotate_left 1
      · intro w9 hw9
        obtain ⟨s0, s1, s2, s3⟩ := hw9
        go_simp
        try with_reducible rfl
      simp only [List.getElem_toArray, List.getElem_cons_zero, List.getElem_cons_succ, Act.put, List.setIfInBounds_toArray, List.set_cons_zero, List.set_cons_succ]
      refine wpAnyL_take (i := 10) (v := ?_) rfl (by kernel_rfl) (by kernel_rfl) (by kernel_rfl) (by kernel_rfl) (fun _ _ _ h => h) hS (Or.inl ⟨by rfl, ?_⟩) ?_
      rotate_left 1
      · intro w9 hw9
        obtain ⟨s0, s1, s2, s3⟩ := hw9
        go_simp
        try with_reducible rfl
      simp only [List.getElem_toArray, List.getElem_cons_zero, List.getElem_cons_succ, Act.put, List.setIfInBounds_toArray, List.set_cons_zero, List.set_cons_succ]
      refine wpAnyL_take (i := 11) (v := ?_) rfl (by kernel_rfl) (by kernel_rfl) (by kernel_rfl) (by kernel_rfl) (fun _ _ _ h => h) hS (Or.inl ⟨by rfl, ?_⟩) ?_
      rotate_left 1
      · intro w9 hw9
        obtain ⟨s0, s1, s2, s3⟩ := hw9
        go_simp
        try with_reducible rfl
      simp only [List.getElem_toArray, List.getElem_cons_zero, List.getElem_cons_succ, Act.put, List.setIfInBounds_toArray, List.set_cons_zero, List.set_cons_succ]
      refine wpAnyL_take (i := 12) (v := ?_) rfl (by kernel_rfl) (by kernel_rfl) (by kernel_rfl) (by kernel_rfl) (fun _ _ _ h => h) hS (Or.inl ⟨by rfl, ?_⟩) ?_
      rotate_left 1
      · intro w9 hw9
        obtain ⟨s0, s1, s2, s3⟩ := hw9
        go_simp
        try with_reducible rfl
      simp only [List.getElem_toArray, List.getElem_cons_zero, List.getElem_cons_succ, Act.put, List.setIfInBounds_toArray, List.set_cons_zero, List.set_cons_succ]
      refine wpAnyL_take (i := 13) (v := ?_) rfl (by kernel_rfl) (by kernel_rfl) (by kernel_rfl) (by kernel_rfl) (fun _ _ _ h => h) hS (Or.inl ⟨by rfl, ?_⟩) ?_
      rotate_left 1
      · intro w9 hw9
        obtain ⟨s0, s1, s2, s3⟩ := hw9
        go_simp
        try with_reducible rfl
      simp only [List.getElem_toArray, List.getElem_cons_zero, List.getElem_cons_succ, Act.put, List.setIfInBounds_toArray, List.set_cons_zero, List.set_cons_succ]
      refine wpAnyL_take (i := 14) (v := ?_) rfl (by kernel_rfl) (by kernel_rfl) (by kernel_rfl) (by kernel_rfl) (fun _ _ _ h => h) hS (Or.inl ⟨by rfl, ?_⟩) ?_
      rotate_left 1
      · intro w9 hw9
        obtain ⟨s0, s1, s2, s3⟩ := hw9
        go_simp
        try with_reducible rfl
      simp only [List.getElem_toArray, List.getElem_cons_zero, List.getElem_cons_succ, Act.put, List.setIfInBounds_toArray, List.set_cons_zero, List.set_cons_succ]
      refine wpAnyL_take (i := 15) (v := ?_) rfl (by kernel_rfl) (by kernel_rfl) (by kernel_rfl) (by kernel_rfl) (fun _ _ _ h => h) hS (Or.inl ⟨by rfl, ?_⟩) ?_
      rotate_left 1
      · intro w9 hw9
        obtain ⟨s0, s1, s2, s3⟩ := hw9
        go_simp
        try with_reducible rfl
      simp only [List.getElem_toArray, List.getElem_cons_zero, List.getElem_cons_succ, Act.put, List.setIfInBounds_toArray, List.set_cons_zero, List.set_cons_succ]
      refine wpAnyL_take (i := 16) (v := ?_) rfl (by kernel_rfl) (by kernel_rfl) (by kernel_rfl) (by kernel_rfl) (fun _ _ _ h => h) hS (Or.inl ⟨by rfl, ?_⟩) ?_
      rotate_left 1
      · intro w9 hw9
        obtain ⟨s0, s1, s2, s3⟩ := hw9
        go_simp
        try with_reducible rfl
      simp only [List.getElem_toArray, List.getElem_cons_zero, List.getElem_cons_succ, Act.put, List.setIfInBounds_toArray, List.set_cons_zero, List.set_cons_succ]
      refine wpAnyL_take (i := 17) (v := ?_) rfl (by kernel_rfl) (by kernel_rfl) (by kernel_rfl) (by kernel_rfl) (fun _ _ _ h => h) hS (Or.inl ⟨by rfl, ?_⟩) ?_
      rotate_left 1
      · intro w9 hw9
        obtain ⟨s0, s1, s2, s3⟩ := hw9
        go_simp
        try with_reducible rfl
      simp only [List.getElem_toArray, List.getElem_cons_zero, List.getElem_cons_succ, Act.put, List.setIfInBounds_toArray, List.set_cons_zero, List.set_cons_succ]
      refine wpAnyL_take (i := 18) (v := ?_) rfl (by kernel_rfl) (by kernel_rfl) (by kernel_rfl) (by kernel_rfl) (fun _ _ _ h => h) hS (Or.inl ⟨by rfl, ?_⟩) ?_
      rotate_left 1
      · intro w9 hw9
        obtain ⟨s0, s1, s2, s3⟩ := hw9
        go_simp
        try with_reducible rfl
      simp only [List.getElem_toArray, List.getElem_cons_zero, List.getElem_cons_succ, Act.put, List.setIfInBounds_toArray, List.set_cons_zero, List.set_cons_succ]
      refine wpAnyL_take (i := 19) (v := ?_) rfl (by kernel_rfl) (by kernel_rfl) (by kernel_rfl) (by kernel_rfl) (fun _ _ _ h => h) hS (Or.inl ⟨by rfl, ?_⟩) ?_
      rotate_left 1
      · intro w9 hw9
        obtain ⟨s0, s1, s2, s3⟩ := hw9
        go_simp
        try with_reducible rfl
      simp only [List.getElem_toArray, List.getElem_cons_zero, List.getElem_cons_succ, Act.put, List.setIfInBounds_toArray, List.set_cons_zero, List.set_cons_succ]
      refine wpAnyL_take (i := 20) (v := ?_) rfl (by kernel_rfl) (by kernel_rfl) (by kernel_rfl) (by kernel_rfl) (fun _ _ _ h => h) hS (Or.inl ⟨by rfl, ?_⟩) ?_
      rotate_left 1
      · intro w9 hw9
        obtain ⟨s0, s1, s2, s3⟩ := hw9
        go_simp
        try with_reducible rfl
      simp only [List.getElem_toArray, List.getElem_cons_zero, List.getElem_cons_succ, Act.put, List.setIfInBounds_toArray, List.set_cons_zero, List.set_cons_succ]
      refine wpAnyL_one (i := 21) (by kernel_rfl) rfl (fun K9 hK9 => ?_)
      go_simp
      refine hK9.out _ _ (fun _ => ⟨(World.cell?_alloc_lt _ _ _ (by show b1 < wq.heap.size; omega)).trans hS.1, (World.cell?_alloc_lt _ _ _ (by show b1 < wq.heap.size; omega)).trans hS.2.1, (World.cell?_alloc_lt _ _ _ (by show b2 < wq.heap.size; omega)).trans hS.2.2.1, (World.cell?_alloc_lt _ _ _ (by show b2 < wq.heap.size; omega)).trans hS.2.2.2⟩) (fun hS' => ?_)
      clear hK9 K9
      refine wpAnyL_one (i := 22) (by kernel_rfl) rfl (fun K9 hK9 => ?_)
      go_simp
      refine hK9.out _ _ (fun h => absurd rfl h) (fun _ => ?_)
      refine wpAnyL_done (by kernel_rfl) ?_ _
      clear hK9 K9 hS' hS
      obtain ⟨x0, hx0⟩ : ∃ t, fa - lb = t := ⟨_, rfl⟩
      obtain ⟨x1, hx1⟩ : ∃ t, la - fb = t := ⟨_, rfl⟩
      rw [hx0, hx1] at HSP ⊢
      obtain ⟨V, hV⟩ : ∃ V, (wq.alloc (.cells #[.int .i64 x0, .int .i64 x1] 23)).drew = V := ⟨_, rfl⟩
      rw [hV]
      have BV : Below wq.heap.size wq V := by rw [← hV]; (repeat first | with_reducible assumption | with_reducible exact Below.refl _ _ | (with_reducible refine Below.alloc ?_ ?side _; case side => (first | omega | (with_reducible exact Below.size (by assumption)) | (simp; done) | (simp; omega))) | (with_reducible refine Below.setCell ?_ ?side _; case side => (first | omega | (with_reducible exact Below.size (by assumption)) | (simp; done) | (simp; omega))) | with_reducible refine Below.drew ?_ | with_reducible refine below_drewN ?_ _ | (with_reducible refine below_step (by assumption) ?side ?_; case side => (first | omega | (with_reducible exact Below.size (by assumption)) | (simp; done) | (simp; omega))))
      have zV : wq.heap.size < V.heap.size := by rw [← hV]; simp [World.drew]
      have HNV : Hid (Blk V wq.heap.size 23 #[.int .i64 x0, .int .i64 x1]) := by rw [← hV]; exact Lib.hid (Blk.new wq _ _)
      have HEV := Lib.hid (HEQ.out.below BV HEQ.out.lt)
      have HOV := Lib.hid (HOQ.out.then_below BV (by omega))
      have n0 := HNV.out.cell
      have o0 := HEV.out.cell
      have o1' := HEV.out.frozen
      have lV := HEV.out.lt
      clear hV HEQ HOQ hx0 hx1 v1 v2 v3 v4 BV y0' y1' z0' z1'
      obtain ⟨h0, hh0⟩ : ∃ h, (en4 l k).lo = h := ⟨_, rfl⟩
      obtain ⟨h1, hh1⟩ : ∃ h, (en4 l k).hi = h := ⟨_, rfl⟩
      rw [hh0, hh1] at o0 HEV
      have HH := Lib.hid (And.intro hh0 hh1)
      clear hh0 hh1
      by_cases hk0 : k = 0
      · subst hk0
        have hkB0 : ((0 : Int) == 0) = true := rfl
        have E2 : Hid ((en4 l (0 + 1)).lo = x0 ∧ (en4 l (0 + 1)).hi = x1) := by
          rw [HES.out, if_pos rfl, HSP.out, hl4_idem]
          exact Lib.hid ⟨rfl, rfl⟩
        go_wp2_with fail
        go_roundw
        case rel =>
          refine ⟨0 + 1, by omega, by go_num, Lib.hid ((((HOV.out.set (p := ⟨w.heap.size + 1, 0, none⟩) (.inl rfl) _).set (p := ⟨w.heap.size + 1, 1, none⟩) (.inl rfl) _).set (p := ⟨w.heap.size + 1, 0, none⟩) (.inl rfl) _).set (p := ⟨w.heap.size + 1, 1, none⟩) (.inl rfl) _), Lib.hid ?_⟩
          rw [E2.out.1, E2.out.2]
          simpa using (((HEV.out.set_ 0 (.int .i64 x0)).set_ 1 (.int .i64 x1)).set_ 0 (.int .i64 x0)).set_ 1 (.int .i64 x1)
        case measure => simp [intOf]; omega
      · have hkB0 : ((k : Int) == 0) = false := by simp; omega
        have E2 : Hid ((en4 l (k + 1)).lo = min h0 x0 ∧ (en4 l (k + 1)).hi = max h1 x1) := by
          rw [HES.out, if_neg hk0, HSP.out]
          unfold hl4
          rw [HH.out.1, HH.out.2]
          exact Lib.hid ⟨rfl, rfl⟩
        go_wp2_with fail
        all_goals
          go_roundw
          case rel =>
            refine ⟨k + 1, by omega, by go_num, Lib.hid ((HOV.out.set (p := ⟨w.heap.size + 1, 0, none⟩) (.inl rfl) _).set (p := ⟨w.heap.size + 1, 1, none⟩) (.inl rfl) _), Lib.hid ?_⟩
            rw [E2.out.1, E2.out.2]
            simpa using (HEV.out.set_ 0 (.int .i64 (min h0 x0))).set_ 1 (.int .i64 (max h1 x1))
          case measure => simp [intOf]; omega
    · obtain rfl : k = n := by omega
      have hkB : decide ((k : Int) < k) = false := by simp
      have g0 := HEr.out.cell
      have p0 := (HOr.out.cell (p := ⟨w.heap.size, 0, none⟩) (by show w.heap.size < _; omega) (by show ¬ w.heap.size = _; omega)).trans (q0 0)
      have p1 := (HOr.out.cell (p := ⟨w.heap.size, 1, none⟩) (by show w.heap.size < _; omega) (by show ¬ w.heap.size = _; omega)).trans (q0 1)
      have r0 := (HOr.out.frozen (p := ⟨w.heap.size, 0, none⟩) (by show w.heap.size < _; omega) (by show ¬ w.heap.size = _; omega)).trans (f0 0)
      have r1 := (HOr.out.frozen (p := ⟨w.heap.size, 1, none⟩) (by show w.heap.size < _; omega) (by show ¬ w.heap.size = _; omega)).trans (f0 1)
      obtain ⟨y0, hy0⟩ : ∃ y, (en4 l k).lo = y := ⟨_, rfl⟩
      obtain ⟨y1, hy1⟩ : ∃ y, (en4 l k).hi = y := ⟨_, rfl⟩
      rw [hy0, hy1] at g0
      have HY := Lib.hid (And.intro hy0 hy1)
      clear hy0 hy1
      go_wp2_with fail
      obtain ⟨d0, d1⟩ := two_cells (u := .int .i64 y0) (v := .int .i64 y1) (by simp) p0 p1
      have hwo := hw.out
      exact bodyPost_ret (v := .agg #[.int .i64 y0, .int .i64 y1]) (by simp [results, Try.results54, go_sem, d0, d1]) rfl ⟨by rw [HY.out.1, HY.out.2], by (repeat first | with_reducible assumption | with_reducible exact Below.refl _ _ | (with_reducible refine Below.alloc ?_ ?side _; case side => (first | omega | (with_reducible exact Below.size (by assumption)) | (simp; done) | (simp; omega))) | (with_reducible refine Below.setCell ?_ ?side _; case side => (first | omega | (with_reducible exact Below.size (by assumption)) | (simp; done) | (simp; omega))) | with_reducible refine Below.drew ?_ | with_reducible refine below_drewN ?_ _ | (with_reducible refine below_step (by assumption) ?side ?_; case side => (first | omega | (with_reducible exact Below.size (by assumption)) | (simp; done) | (simp; omega))))⟩

end Go.Proofs.Ytmmgkmdfecnkdaa
