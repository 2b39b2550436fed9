/- good of repairs (layer 7): all good repairs, one after the other, handed to a function; shortest of repairs (layer 7): its closures; the shortest repairs in order. -/
import Derived.Test.YtcbeiadimchknaaGreatQp26
namespace Go.Proofs.YtcbeiadimchknaaGreat
open Go.RowKit
open Go.Sort (grow)
set_option linter.unusedVariables false
set_option linter.unusedSimpArgs false

set_option maxRecDepth 100000 in
set_option maxHeartbeats 1600000 in
theorem good_c (A : Option Addr) (n c g : Nat) (fst cap : Array Value) (q : Cb) (ls : List Sp) (w : World) (hn : n ≤ 12) (J : Nat → World → Prop)
    (h0 : J 0 (w.alloc (.cells #[.slice A n c, .int .i64 q.need, .int .i64 q.gap, .int .i64 q.doubt, .int .i64 q.joins, .int .i64 q.least] 24)))
    (hmem : ∀ k W, J k W → SpsAt W A n ls ∧ Blk W w.heap.size 24 #[.slice A n c, .int .i64 q.need, .int .i64 q.gap, .int .i64 q.doubt, .int .i64 q.joins, .int .i64 q.least])
    (hlater : ∀ k W W', J k W → Below W.heap.size W W' → J k W')
    (hskip : ∀ k W, k < 2 ^ n → goodB q ls n k = false → J k W → J (k + 1) W)
    (HE : ∀ args w, (callFunc g args).run Tryz.prog w = .ok (.enter g args) w)
    (hyield : ∀ k W, k < 2 ^ n → goodB q ls n k = true → J k W → Calls Tryz.prog g (fst.push (.int .u64 k) ++ cap) W fun e W' => e = .returned (.bool true) ∧ J (k + 1) W') :
    Calls Tryz.prog 54 #[.agg #[.slice A n c, .int .i64 q.need, .int .i64 q.gap, .int .i64 q.doubt, .int .i64 q.joins, .int .i64 q.least], .func (.func g) fst cap] w fun e W' => e = .returned (.tuple #[]) ∧ J (2 ^ n) W' := by
  have HM := Lib.hid hmem
  have HL := Lib.hid hlater
  have HS := Lib.hid hskip
  have HY := Lib.hid hyield
  have H0 := Lib.hid h0
  obtain ⟨M, hM2⟩ : ∃ M, 2 ^ n = M := ⟨_, rfl⟩
  have hMle : M ≤ 4096 := by
    have : 2 ^ n ≤ 2 ^ 12 := Nat.pow_le_pow_right (by omega) hn
    omega
  have hsh : IntKind.u64.wrap ((2 : Int) ^ n) = (M : Int) := by
    have e : (2 : Int) ^ n = (M : Int) := by rw [← hM2]; simp
    rw [e, IntKind.wrap_u64]; omega
  have HM2 := Lib.hid hM2
  clear hmem hlater hskip hyield h0 hM2
  go_enter Tryz.func54, Tryz.ntmps54
  go_wp2_with fail
  clear hsh
  go_loopw [9] (fun i (wr : World) => ∃ s : Nat, s ≤ M ∧ i = .int .u64 s ∧ J s wr) (fun i _ => M - (intOf i).toNat)
  case atStart => exact ⟨0, Nat.zero_le _, rfl, H0.out⟩
  case round =>
    obtain ⟨s, hs, rfl, hJ⟩ := hrel
    obtain ⟨hsp, hbk⟩ := HM.out _ _ hJ
    have d0 := hbk.cell
    have n0 := hbk.lt
    have HSP := Lib.hid hsp
    have HJ := Lib.hid hJ
    clear hsp hbk hJ
    by_cases hlt : s < M
    · have hltB : decide ((s : Int) < M) = true := by simp; omega
      have hg := isGood_c A n c s q ls wr (by omega) (by omega) HSP.out
      cases e1 : goodB q ls n s
      · rw [e1] at hg
        have HN := Lib.hid e1
        replace hg := Lib.hid hg
        clear e1
        go_wp2_with fail
        refine (hg.out).mono ?_
        rintro e w1 ⟨rfl, hb1⟩
        go_wp2_with fail
        refine ⟨⟨s + 1, by omega, by simp, HS.out _ _ (by rw [HM2.out]; exact hlt) HN.out (HL.out _ _ _ HJ.out hb1)⟩, by simp [intOf]; omega⟩
      · rw [e1] at hg
        have HN := Lib.hid e1
        replace hg := Lib.hid hg
        clear e1
        go_wp2_with fail
        refine (hg.out).mono ?_
        rintro e w1 ⟨rfl, hb1⟩
        go_wp2_with fail
        refine (HY.out s w1 (by rw [HM2.out]; exact hlt) HN.out (HL.out _ _ _ HJ.out hb1)).mono ?_
        rintro e w2 ⟨rfl, hJ2⟩
        have HJ2 := Lib.hid hJ2
        clear hJ2
        go_wp2_with fail
        refine ⟨⟨s + 1, by omega, by simp, HJ2.out⟩, by simp [intOf]; omega⟩
    · obtain rfl : s = M := by omega
      have hltB : decide (((s : Nat) : Int) < s) = false := by simp
      go_wp2_with fail
      go_end0
      exact ⟨rfl, by rw [HM2.out]; exact HJ.out⟩

end Go.Proofs.YtcbeiadimchknaaGreat

namespace Go.Proofs.YtcbeiadimchknaaGreat
open Go.RowKit
open Go.Sort (grow)
set_option linter.unusedVariables false
set_option linter.unusedSimpArgs false

def encU (x : Nat) : List Value := [.int .u64 (x : Int)]
theorem encU_len (x : Nat) : (encU x).length = 1 := rfl
theorem encU_one (x : Nat) : ∀ u ∈ encU x, u.oneCell' = true := by
  intro u hu; simp only [encU, List.mem_cons, List.not_mem_nil, or_false] at hu; subst hu; rfl
theorem cut_info : (Tryz.prog.info? 69).map (fun i => (i.zero, i.size, i.bytes)) = some (some (.int .u64 0), 1, 8) := by kernel_rfl
theorem cutE : ElemT Tryz.prog 65 69 1 8 := by
  obtain ⟨i0, hi0, hz0, hz1, hz2⟩ := info_parts cut_info
  exact ⟨Tryz.underlying65, ⟨i0, _, hi0, hz0, hz1, hz2, rfl⟩, by omega, by omega⟩
/-- a slice of sets that reads as a list -/
def UsAt (w : World) (A : Option Addr) (n : Nat) (xs : List Nat) : Prop := SlAt encU 1 0 w A n xs
set_option maxHeartbeats 400000 in
theorem many_c_q7 (bc x n c : Nat) (A : Option Addr) (w : World) (hx : x < 65536) (hn : n ≤ 40) (h : w.cell? ⟨bc, 0, none⟩ = some (.slice A n c)) :
    Calls Tryz.prog 53 #[.int .u64 x, .pointer (some ⟨bc, 0, none⟩)] w fun e w' => e = .returned (.int .i64 (cntN x n)) ∧ Below w.heap.size w w' := by
  have hl : (selN x n true).length = cntN x n := by rw [selN_true]; rfl
  have hc := (list_c x n true w hx hn)
  rw [hl] at hc
  replace hc := Lib.hid hc
  clear hl
  go_enter Tryz.func53, Tryz.ntmps53
  go_wp2_with fail
  refine hc.out.mono ?_
  rintro e w1 ⟨A1, c1, rfl, -, hb1⟩
  go_wp2
  go_ret
  exact ⟨rfl, hb1⟩
/-- what the closure of shortest reads -/
structure ShM (bo bm bc base : Nat) (A : Option Addr) (n c : Nat) (S : List Nat) (v : Value) (W : World) : Prop where
  o : Blk W bo 65 #[v]
  m : W.cell? ⟨bm, 0, none⟩ = some (.func (.func 53) #[] #[.pointer (some ⟨bc, 0, none⟩)])
  c : W.cell? ⟨bc, 0, none⟩ = some (.slice A n c)
  own : W.ownsRow base 69 1 v S.length (S.flatMap encU)
  lt : bo < base ∧ bm < base ∧ bc < base
  ne : bo ≠ bm ∧ bo ≠ bc
/-- what may have turned behind a call of the closure -/
structure Fr (bo base : Nat) (W W' : World) : Prop where
  os : W'.os = W.os
  tape : W'.tape = W.tape
  output : W'.output = W.output
  size : W.heap.size ≤ W'.heap.size
  same : ∀ g, g < W.heap.size → g ≠ bo → g < base → W'.heap[g]? = W.heap[g]?
theorem Fr.below {bo base B : Nat} {w W W' : World} (h : Fr bo base W W') (hb : Below B w W) (h1 : B ≤ bo) (h2 : B ≤ base) (h3 : B ≤ W.heap.size) : Below B w W' :=
  ⟨h.os.trans hb.os, h.tape.trans hb.tape, h.output.trans hb.output, Nat.le_trans hb.size h.size, fun g hg => (h.same g (by omega) (by omega) (by omega)).trans (hb.block g hg)⟩
theorem Fr.blk {bo base g : Nat} {t : TypeId} {cs : Array Value} {W W' : World} (h : Fr bo base W W') (hb : Blk W g t cs) (h1 : g ≠ bo) (h2 : g < base) : Blk W' g t cs := (h.same g hb.lt h1 h2).trans hb
theorem Fr.of_below {bo base : Nat} {W W' : World} (h : Below W.heap.size W W') : Fr bo base W W' := ⟨h.os, h.tape, h.output, h.size, fun g hg _ _ => h.block g hg⟩
theorem Fr.trans {bo base : Nat} {W W' W'' : World} (h : Fr bo base W W') (k : Fr bo base W' W'') : Fr bo base W W'' :=
  ⟨k.os.trans h.os, k.tape.trans h.tape, k.output.trans h.output, Nat.le_trans h.size k.size, fun g h1 h2 h3 => (k.same g (Nat.lt_of_lt_of_le h1 h.size) h2 h3).trans (h.same g h1 h2 h3)⟩
theorem Fr.cell {bo base : Nat} {W W' : World} (h : Fr bo base W W') {p : Addr} (h0 : p.block < W.heap.size) (h1 : p.block ≠ bo) (h2 : p.block < base) : W'.cell? p = W.cell? p := World.cell?_of_block (h.same _ h0 h1 h2)
section
variable {bo bm bc base : Nat} {A : Option Addr} {n c x : Nat} {S : List Nat} {v : Value} {W W' : World}
theorem ShM.below (h : ShM bo bm bc base A n c S v W) (hb : Below W.heap.size W W') : ShM bo bm bc base A n c S v W' :=
  ⟨h.o.below hb h.o.lt, (hb.cell (World.block_lt_of_cell? _ _ h.m)).trans h.m, (hb.cell (World.block_lt_of_cell? _ _ h.c)).trans h.c, own_below h.own hb, h.lt, h.ne⟩
theorem Fr.set (hbo : bo < W.heap.size) (u : Value) : Fr bo base W (W.setCell ⟨bo, 0, none⟩ u) :=
  ⟨rfl, rfl, rfl, by simp, fun g _ h _ => Below.heap_setCell W _ _ g h⟩
theorem ShM.reset (h : ShM bo bm bc base A n c S v W) : ShM bo bm bc base A n c [] (.slice none 0 0) (W.setCell ⟨bo, 0, none⟩ (.slice none 0 0)) := by
  have f := Fr.set (base := base) (W := W) h.o.lt (.slice none 0 0)
  refine ⟨?_, (f.cell (World.block_lt_of_cell? _ _ h.m) (Ne.symm h.ne.1) h.lt.2.1).trans h.m, (f.cell (World.block_lt_of_cell? _ _ h.c) (Ne.symm h.ne.2) h.lt.2.2).trans h.c, World.ownsRow_nil _ _ _ _, h.lt, h.ne⟩
  have := h.o.set_ 0 (.slice none 0 0)
  simpa using this
theorem ShM.app (h : ShM bo bm bc base A n c S v W) (hbase : base ≤ W.heap.size) {w5 : World} {v' : Value} {cs : Array Value} {t : TypeId}
    (ho : w5.ownsRow base 69 1 v' (S.length + 1) ((S ++ [x]).flatMap encU)) (hg : (W.alloc (.cells cs t)).grownBy w5 v.ownBlock) :
    ShM bo bm bc base A n c (S ++ [x]) v' (w5.setCell ⟨bo, 0, none⟩ v') ∧ Fr bo base W (w5.setCell ⟨bo, 0, none⟩ v') := by
  have hr : ∀ k, v.ownBlock = some k → base ≤ k := own_ge h.own
  have f5 : Fr bo base W w5 := by
    refine ⟨hg.os, hg.tape, hg.output, Nat.le_trans (by simp) hg.size, fun g h1 h2 h3 => ?_⟩
    refine (hg.block g (by simp; omega) (fun e => ?_)).trans (Below.heap_alloc _ _ _ h1)
    have := hr g e.symm
    omega
  have hlt5 : bo < w5.heap.size := Nat.lt_of_lt_of_le h.o.lt f5.size
  have f : Fr bo base W (w5.setCell ⟨bo, 0, none⟩ v') := f5.trans (Fr.set hlt5 v')
  have hb5 : Blk w5 bo 65 #[v] := (h.o.alloc _).grown hg (fun e => by
    have := hr bo e.symm
    have := h.lt.1
    omega)
  refine ⟨⟨?_, (f.cell (World.block_lt_of_cell? _ _ h.m) (Ne.symm h.ne.1) h.lt.2.1).trans h.m, (f.cell (World.block_lt_of_cell? _ _ h.c) (Ne.symm h.ne.2) h.lt.2.2).trans h.c, ?_, h.lt, h.ne⟩, f⟩
  · have := hb5.set_ 0 v'
    simpa using this
  · rw [List.length_append]
    exact own_set ho fun k hk e => by
      have := own_ge ho k hk
      have := h.lt.1
      simp at e; omega
end
theorem blk_row {bo bm bc base : Nat} {A : Option Addr} {n c : Nat} {S : List Nat} {v : Value} {W w5 : World} {cs : Array Value} {t : TypeId} (h : ShM bo bm bc base A n c S v W) (hg : (W.alloc (.cells cs t)).grownBy w5 v.ownBlock) : Blk w5 bo 65 #[v] :=
  (h.o.alloc _).grown hg (fun e => by
    have := own_ge h.own bo e.symm
    have := h.lt.1
    omega)
set_option maxRecDepth 100000 in
set_option maxHeartbeats 3200000 in
theorem shortest2_c (bo bm bc base x n c : Nat) (A : Option Addr) (S : List Nat) (v : Value) (w : World) (hx : x < 65536) (hS : ∀ y ∈ S, y < 65536) (hl : S.length ≤ 5000) (hn : n ≤ 40) (h : ShM bo bm bc base A n c S v w) (hbase : base ≤ w.heap.size) :
    Calls Tryz.prog 55 #[.int .u64 x, .pointer (some ⟨bo, 0, none⟩), .pointer (some ⟨bm, 0, none⟩)] w
      fun e w' => e = .returned (.bool true) ∧ (∃ v', ShM bo bm bc base A n c (shStep n S x) v' w') ∧ Fr bo base w w' := by
  have en : ∀ args w, (callFunc 53 args).run Tryz.prog w = .ok (.enter 53 args) w := enters_of Tryz.func53 (by kernel_rfl) rfl
  cases S with
  | nil =>
    obtain ⟨B, cb, rfl, hcb, hsl⟩ := SlAt.of_own (d := 0) encU_len h.own rfl
    have H := Lib.hid h
    have o0 := h.o.cell
    have ol := h.o.lt
    have lb := h.lt
    clear h hsl
    go_enter Tryz.func55, Tryz.ntmps55
    go_wp2_with fail
    have hcq := fun p : Regrown => (bcell (below_regrown w p.d p.os)).1
    refine wp_region_quiet_below (by kernel_rfl) (by kernel_rfl) ?_
    repeat (go_big_quiet_step ((fail)))
    refine wpQuiet_nil ?_
    intro w1 hq
    obtain ⟨pq, hq⟩ := hq
    have hb1 : Below w.heap.size w w1 := by rw [hq]; exact below_regrown _ _ _
    clear hq hcq pq
    obtain ⟨hc1, hf1⟩ := bcell hb1
    have z1 := hb1.size
    go_wp2_with fail
    have ol1 : bo < w1.heap.size := by omega
    have hcq := fun p : Regrown => (bcell (below_regrown w1 p.d p.os)).1
    refine wp_region_quiet_below (by kernel_rfl) (by kernel_rfl) ?_
    repeat (go_big_quiet_step ((fail)))
    refine wpQuiet_nil ?_
    intro w2 hq
    obtain ⟨pq, hq⟩ := hq
    have hb2 : Below w1.heap.size w1 w2 := by rw [hq]; exact below_regrown _ _ _
    clear hq hcq pq
    obtain ⟨hc2, hf2⟩ := bcell hb2
    have z2 := hb2.size
    have hb2' : Below w.heap.size w w2 := hb1.trans (hb2.mono z1)
    obtain ⟨vv, hvv⟩ : ∃ vv, Value.slice B 0 cb = vv := ⟨_, rfl⟩
    have hM := H.out.below hb2'
    rw [show Value.slice B ([] : List Nat).length cb = vv from hvv] at hM
    have HM := Lib.hid hM
    clear hM hvv
    have m2 := HM.out.o.cell
    have m3 := HM.out.o.lt
    have z22 := hb2'.size
    clear hc1 hf1 hc2 hf2 o0
    go_wp2_with (at_builtin; go_must (refine wpList_append_T _ (enc := encU) (d := 0) rfl (.tmp 33) (.tmp 35) _ rfl base _ 1 8 cutE encU_len encU_one (vv) (vv).ownBlock (List.length (([] : List Nat))) (([] : List Nat)) rfl rfl (HM.out.own.alloc _) _ 1 _ [x] rfl (sl_new encU_len rfl rfl rfl) (by first | omega | (simp; done) | (simp; omega)) (by rw [World.size_alloc]; omega) ?_; (intro v' w5 ho5 hg5 hat5; obtain ⟨B5, c5, rfl, -, -⟩ := SlAt.of_own (d := 0) encU_len ho5 (by simp); have HA := Lib.hid (HM.out.app (x := x) (by omega) ho5 hg5); have y0 := (blk_row HM.out hg5).cell 0; have y1 := (blk_row HM.out hg5).frozen 0; have y2 := (blk_row HM.out hg5).lt; clear ho5 hg5 hat5)))
    go_ret
    exact ⟨rfl, ⟨_, HA.out.1⟩, (Fr.of_below hb2').trans HA.out.2⟩
  | cons y r =>
    obtain ⟨g, cb, rfl, hgb, hgl⟩ := h.own.form (by simp)
    have H := Lib.hid h
    have c0 : w.cell? ⟨g, 0, none⟩ = some (.int .u64 (y : Int)) := (h.own.cellAt 0 (by simp)).trans (by simp [encU])
    have o0 := h.o.cell
    have ol := h.o.lt
    have m0 := h.m
    have lb := h.lt
    have lm : bm < w.heap.size := by omega
    have lc : bc < w.heap.size := by omega
    have hcc := h.c
    have hmx : ∀ W, Below w.heap.size w W → Calls Tryz.prog 53 #[.int .u64 x, .pointer (some ⟨bc, 0, none⟩)] W fun e W' => e = .returned (.int .i64 (cntN x n)) ∧ Below W.heap.size W W' := fun W hW =>
      many_c_q7 bc x n c A W hx hn ((hW.cell (p := ⟨bc, 0, none⟩) lc).trans hcc)
    have hmy : ∀ W, Below w.heap.size w W → Calls Tryz.prog 53 #[.int .u64 y, .pointer (some ⟨bc, 0, none⟩)] W fun e W' => e = .returned (.int .i64 (cntN y n)) ∧ Below W.heap.size W W' := fun W hW =>
      many_c_q7 bc y n c A W (hS y (by simp)) hn ((hW.cell (p := ⟨bc, 0, none⟩) lc).trans hcc)
    obtain ⟨m, hm⟩ : ∃ m, (y :: r).length = m := ⟨_, rfl⟩
    have hm0 : 0 < m := by rw [← hm]; simp
    have hm1 : ((m : Int) == 0) = false := by simp; omega
    have hst : Hid (shStep n (y :: r) x = if cntN x n < cntN y n then [x] else if cntN x n = cntN y n then y :: r ++ [x] else y :: r) := rfl
    obtain ⟨cx, hcx⟩ : ∃ k, cntN x n = k := ⟨_, rfl⟩
    obtain ⟨cy, hcy⟩ : ∃ k, cntN y n = k := ⟨_, rfl⟩
    rw [hcx] at hmx hst
    rw [hcy] at hmy hst
    rw [hm] at hl
    replace hmx := Lib.hid hmx
    replace hmy := Lib.hid hmy
    obtain ⟨vv, hvv⟩ : ∃ vv, Value.slice (some ⟨g, 0, none⟩) m cb = vv := ⟨_, rfl⟩
    have HV := Lib.hid hvv
    have HMM := Lib.hid hm
    have H' : Hid (ShM bo bm bc base A n c (y :: r) vv w) := by rw [← hvv, ← hm]; exact H.out
    rw [hm] at o0 H
    clear h hcc hcx hcy hvv hm
    by_cases h1 : cx < cy
    · have hS1 : Hid (shStep n (y :: r) x = [x]) := by
        show _ = _
        rw [hst.out, if_pos h1]
      go_enter Tryz.func55, Tryz.ntmps55
      go_wp2_with fail
      have hcq := fun p : Regrown => (bcell (below_regrown w p.d p.os)).1
      refine wp_region_quiet_below (by kernel_rfl) (by kernel_rfl) ?_
      repeat (go_big_quiet_step (((go_at_call 53; first | with_reducible exact Calls.regrown_of (hmx.out _ (below_regrown _ _ _)) | with_reducible exact Calls.regrown_of (hmy.out _ (below_regrown _ _ _))))))
      refine wpQuiet_nil ?_
      intro w1 hq
      obtain ⟨pq, hq⟩ := hq
      have hb1 : Below w.heap.size w w1 := by rw [hq]; exact below_regrown _ _ _
      clear hq hcq pq
      obtain ⟨hc1, hf1⟩ := bcell hb1
      have z1 := hb1.size
      have ol1 : bo < w1.heap.size := by omega
      have HR := Lib.hid (H'.out.below hb1).reset
      have f0 := (H'.out.below hb1).o.frozen
      have f1 := (H'.out.below hb1).o.cell
      have fr1 : Fr bo base w (w1.setCell ⟨bo, 0, none⟩ (.slice none 0 0)) := (Fr.of_below hb1).trans (Fr.set ol1 _)
      have FR1 := Lib.hid fr1
      clear fr1 hc1 hf1
      go_wp2_with fail
      go_name_world X hX
      rw [hX] at HR FR1
      have xx := HR.out.o.cell
      have xl := HR.out.o.lt
      clear hX f0 f1 o0 c0
      have hcq := fun p : Regrown => (bcell (below_regrown X p.d p.os)).1
      refine wp_region_quiet_below (by kernel_rfl) (by kernel_rfl) ?_
      repeat (go_big_quiet_step ((fail)))
      refine wpQuiet_nil ?_
      intro w2 hq
      obtain ⟨pq, hq⟩ := hq
      have hb2 : Below X.heap.size X w2 := by rw [hq]; exact below_regrown _ _ _
      clear hq hcq pq
      obtain ⟨hc2, hf2⟩ := bcell hb2
      have z2 := hb2.size
      have hM := HR.out.below hb2
      obtain ⟨vn, hvn⟩ : ∃ vn, Value.slice none 0 0 = vn := ⟨_, rfl⟩
      rw [hvn] at hM
      have HM := Lib.hid hM
      clear hM hvn
      have m2 := HM.out.o.cell
      have m3 := HM.out.o.lt
      have zF := FR1.out.size
      clear hc2 hf2 xx
      go_wp2_with (at_builtin; go_must (refine wpList_append_T _ (enc := encU) (d := 0) rfl (.tmp 33) (.tmp 35) _ rfl base _ 1 8 cutE encU_len encU_one (vn) (vn).ownBlock (List.length (([] : List Nat))) (([] : List Nat)) rfl rfl (HM.out.own.alloc _) _ 1 _ [x] rfl (sl_new encU_len rfl rfl rfl) (by first | omega | (simp; done) | (simp; omega)) (by rw [World.size_alloc]; omega) ?_; (intro v' w5 ho5 hg5 hat5; obtain ⟨B5, c5, rfl, -, -⟩ := SlAt.of_own (d := 0) encU_len ho5 (by simp); have HA := Lib.hid (HM.out.app (x := x) (by omega) ho5 hg5); have y0 := (blk_row HM.out hg5).cell 0; have y1 := (blk_row HM.out hg5).frozen 0; have y2 := (blk_row HM.out hg5).lt; clear ho5 hg5 hat5)))
      go_ret
      exact ⟨rfl, ⟨_, by rw [hS1.out]; exact HA.out.1⟩, (FR1.out.trans (Fr.of_below hb2)).trans HA.out.2⟩
    · have h1' : decide ((cx : Int) < cy) = false := by simp; omega
      by_cases h2 : cx = cy
      · have hS1 : Hid (shStep n (y :: r) x = y :: r ++ [x]) := by
          show _ = _
          rw [hst.out, if_neg h1, if_pos h2]
        subst h2
        go_enter Tryz.func55, Tryz.ntmps55
        go_wp2_with fail
        have hcq := fun p : Regrown => (bcell (below_regrown w p.d p.os)).1
        refine wp_region_quiet_below (by kernel_rfl) (by kernel_rfl) ?_
        repeat (go_big_quiet_step (((go_at_call 53; first | with_reducible exact Calls.regrown_of (hmx.out _ (below_regrown _ _ _)) | with_reducible exact Calls.regrown_of (hmy.out _ (below_regrown _ _ _))))))
        refine wpQuiet_nil ?_
        intro w1 hq
        obtain ⟨pq, hq⟩ := hq
        have hb1 : Below w.heap.size w w1 := by rw [hq]; exact below_regrown _ _ _
        clear hq hcq pq
        obtain ⟨hc1, hf1⟩ := bcell hb1
        have z1 := hb1.size
        have zz1 := hb1.size
        have ol1 : bo < w1.heap.size := by omega
        have o1 := fun i => (hc1 bo i ol).trans (o0 i)
        have mm1 := (hb1.cell (p := ⟨bm, 0, none⟩) lm).trans m0
        have cc1 := (hb1.cell (p := ⟨g, 0, none⟩) hgl).trans c0
        have lm1 : bm < w1.heap.size := by omega
        have lg1 : g < w1.heap.size := by omega
        clear hc1 hf1 o0 m0 c0
        go_wp2_with fail
        have hcq := fun p : Regrown => (bcell (below_regrown w1 p.d p.os)).1
        refine wp_region_quiet_below (by kernel_rfl) (by kernel_rfl) ?_
        repeat (go_big_quiet_step (((go_at_call 53; first | with_reducible exact Calls.regrown_of (hmx.out _ (hb1.trans ((below_regrown _ _ _).mono zz1))) | with_reducible exact Calls.regrown_of (hmy.out _ (hb1.trans ((below_regrown _ _ _).mono zz1)))))))
        refine wpQuiet_nil ?_
        intro w2 hq
        obtain ⟨pq, hq⟩ := hq
        have hb2 : Below w1.heap.size w1 w2 := by rw [hq]; exact below_regrown _ _ _
        clear hq hcq pq
        obtain ⟨hc2, hf2⟩ := bcell hb2
        have z2 := hb2.size
        have hb2' : Below w.heap.size w w2 := hb1.trans (hb2.mono zz1)
        have HM := Lib.hid (H'.out.below hb2')
        have m2 := HM.out.o.cell
        have m3 := HM.out.o.lt
        have z22 := hb2'.size
        have hl2 : (y :: r).length ≤ 5000 := by rw [HMM.out]; exact hl
        clear hc2 hf2 o1 mm1 cc1
        go_wp2_with (at_builtin; go_must (refine wpList_append_T _ (enc := encU) (d := 0) rfl (.tmp 33) (.tmp 35) _ rfl base _ 1 8 cutE encU_len encU_one (vv) (vv).ownBlock (List.length (y :: r)) (y :: r) rfl rfl (HM.out.own.alloc _) _ 1 _ [x] rfl (sl_new encU_len rfl rfl rfl) (by first | omega | (simp; done) | (simp; omega)) (by rw [World.size_alloc]; omega) ?_; (intro v' w5 ho5 hg5 hat5; obtain ⟨B5, c5, rfl, -, -⟩ := SlAt.of_own (d := 0) encU_len ho5 (by simp); have HA := Lib.hid (HM.out.app (x := x) (by omega) ho5 hg5); have y0 := (blk_row HM.out hg5).cell 0; have y1 := (blk_row HM.out hg5).frozen 0; have y2 := (blk_row HM.out hg5).lt; clear ho5 hg5 hat5)))
        go_ret
        exact ⟨rfl, ⟨_, by rw [hS1.out]; exact HA.out.1⟩, (Fr.of_below hb2').trans HA.out.2⟩
      · have hS1 : Hid (shStep n (y :: r) x = y :: r) := by
          show _ = _
          rw [hst.out, if_neg h1, if_neg h2]
        have h2' : ((cx : Int) == cy) = false := by simp; omega
        go_enter Tryz.func55, Tryz.ntmps55
        go_wp2_with fail
        have hcq := fun p : Regrown => (bcell (below_regrown w p.d p.os)).1
        refine wp_region_quiet_below (by kernel_rfl) (by kernel_rfl) ?_
        repeat (go_big_quiet_step (((go_at_call 53; first | with_reducible exact Calls.regrown_of (hmx.out _ (below_regrown _ _ _)) | with_reducible exact Calls.regrown_of (hmy.out _ (below_regrown _ _ _))))))
        refine wpQuiet_nil ?_
        intro w1 hq
        obtain ⟨pq, hq⟩ := hq
        have hb1 : Below w.heap.size w w1 := by rw [hq]; exact below_regrown _ _ _
        clear hq hcq pq
        obtain ⟨hc1, hf1⟩ := bcell hb1
        have z1 := hb1.size
        have zz1 := hb1.size
        have ol1 : bo < w1.heap.size := by omega
        have o1 := fun i => (hc1 bo i ol).trans (o0 i)
        have mm1 := (hb1.cell (p := ⟨bm, 0, none⟩) lm).trans m0
        have cc1 := (hb1.cell (p := ⟨g, 0, none⟩) hgl).trans c0
        have lm1 : bm < w1.heap.size := by omega
        have lg1 : g < w1.heap.size := by omega
        clear hc1 hf1 o0 m0 c0
        go_wp2_with fail
        have hcq := fun p : Regrown => (bcell (below_regrown w1 p.d p.os)).1
        refine wp_region_quiet_below (by kernel_rfl) (by kernel_rfl) ?_
        repeat (go_big_quiet_step (((go_at_call 53; first | with_reducible exact Calls.regrown_of (hmx.out _ (hb1.trans ((below_regrown _ _ _).mono zz1))) | with_reducible exact Calls.regrown_of (hmy.out _ (hb1.trans ((below_regrown _ _ _).mono zz1)))))))
        refine wpQuiet_nil ?_
        intro w2 hq
        obtain ⟨pq, hq⟩ := hq
        have hb2 : Below w1.heap.size w1 w2 := by rw [hq]; exact below_regrown _ _ _
        clear hq hcq pq
        obtain ⟨hc2, hf2⟩ := bcell hb2
        have z2 := hb2.size
        have hb2' : Below w.heap.size w w2 := hb1.trans (hb2.mono zz1)
        go_wp2_with fail
        go_ret
        exact ⟨rfl, ⟨vv, by rw [hS1.out]; exact H'.out.below hb2'⟩, Fr.of_below hb2'⟩

end Go.Proofs.YtcbeiadimchknaaGreat
