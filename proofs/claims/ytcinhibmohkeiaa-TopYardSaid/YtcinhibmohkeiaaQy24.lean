/- truths of checks (layer 5): the differences of all truths, handed to a function. -/
import Derived.Test.YtcinhibmohkeiaaQy22
import Derived.Test.YtcinhibmohkeiaaQy23
import Derived.Shelf.Abstract
import Derived.Laws.EntriesVeiled
import Derived.Handy
import Derived.Deep.DrawnRows
import Derived.Deep.DeepCutAuto
import Derived.BigRegionIn
import Derived.Shelf.RegionOpen
import Derived.Deep.RegionHeld3
import Derived.Laws.CopyRow
namespace Go.Proofs.Ytcinhibmohkeiaa
open Go.RowKit
open Go.Sort (grow)
set_option linter.unusedVariables false
set_option linter.unusedSimpArgs false

attribute [local go_sem] Oper.semAt_some
attribute [local go_sem high] run_min25
/-- how many of the first k pass -/
def cnt5 {α : Type} (p : α → Bool) (xs : List α) (k : Nat) : Nat := ((xs.take k).filter p).length
theorem cnt5_yes {α : Type} {p : α → Bool} {xs : List α} {k : Nat} {x : α} (h : xs[k]? = some x) (hx : p x = true) : cnt5 p xs (k + 1) = cnt5 p xs k + 1 ∧ (xs.filter p)[cnt5 p xs k]? = some x := by
  have hl := (List.getElem?_eq_some_iff.1 h).1
  have e : xs.filter p = (xs.take k).filter p ++ x :: (xs.drop (k + 1)).filter p := by
    have h1 := (List.getElem?_eq_some_iff.1 h).2
    have h2 := List.drop_eq_getElem_cons hl
    rw [h1] at h2
    conv => lhs; rw [← List.take_append_drop k xs, h2, List.filter_append]
    rw [List.filter_cons_of_pos hx]
  unfold cnt5
  constructor
  · rw [List.take_add_one, h, List.filter_append, List.length_append]
    simp [hx]
  · rw [e, List.getElem?_append_right (Nat.le_refl _), Nat.sub_self]; rfl
theorem cnt5_no {α : Type} {p : α → Bool} {xs : List α} {k : Nat} {x : α} (h : xs[k]? = some x) (hx : p x = false) : cnt5 p xs (k + 1) = cnt5 p xs k := by
  unfold cnt5
  rw [List.take_add_one, h, List.filter_append, List.length_append]
  simp [hx]
theorem cnt5_full {α : Type} {p : α → Bool} {xs : List α} : cnt5 p xs xs.length = (xs.filter p).length := by unfold cnt5; rw [List.take_length]
/-- a whole row is loaded within a fence, by an operation that is wanted -/
theorem wpListIn_load_rowG {P : Program} {F : Fence} {n : Nat} {ops : Array Oper} {rest : List Oper} {o : Oper} {a : Act} {w : World} {Q : Exit → Act → World → Prop} (hw : Region.wanted o (yielded ops a.tmps) = true) (hn : ∀ f, F.fn f) (ty : TypeId) (x : Operand) (ho : o.op = .load ty x)
    (g : Nat) (hx : a.eval x = .pointer (some ⟨g, 0, none⟩)) (t : TypeId) (cs : Array Value) (fr : Nat × Nat) (d : TypeDesc) (hg : w.heap[g]? = some (.cells cs t fr))
    (hu : P.underlying ty = some d) (hd : (match d with | .struct _ | .array _ _ => true | _ => false) = true) (hi : (P.info? ty).map (·.size) = some cs.size)
    (h : wpListIn F n P ops Q rest (a.put o.dst (.agg cs)) w) : wpListIn F n P ops Q (o :: rest) a w := by
  show if _ then _ else _
  rw [if_pos hw]
  have hs : o.semAt F.round a.eval = execOp a.eval o := Oper.semAt_eq _ _ _ (fun c hc => by rw [ho] at hc; cases hc)
  unfold Oper.wpIn
  refine ⟨fun f _ => hn f, ?_⟩
  rw [hs]
  unfold execOp
  simp only [ho, hx, Instr.loadAt, Instr.sureAddr, Sem.run_bind, Sem.run_pure, Result.andThen_ok, run_loadVar_row w g t ty cs fr d hg hu hd hi]
  exact h
/-- the table without the comparisons of a set -/
def trT (n : Nat) (ms : List Sp) (cs : List Cm5) (s : Nat) : List Int := clT n (eds5 ms cs fun k => !s.testBit k)
/-- the sets whose tables are yielded -/
def trsY (n m : Nat) (ms : List Sp) (cs : List Cm5) (wr : Int) : List Nat := (setsL m (min wr m)).filter fun s => clB n (trT n ms cs s)
/-- what the iterator reads: the yard, boxed -/
structure YaMem (yb : Nat) (A : Option Addr) (n c : Nat) (B : Option Addr) (m d : Nat) (wr : Int) (ms : List Sp) (cs : List Cm5) (W : World) : Prop where
  blk : Blk W yb 51 #[.slice A n c, .slice B m d, .int .i64 wr]
  HM : SpsAt W A n ms
  HC : CmsAt W B m cs
theorem cms_tame {B : Nat} {W W' : World} {n : Nat} {A : Option Addr} {xs : List Cm5} (h : Tame B W W') (hx : CmsAt W A n xs) : CmsAt W' A n xs := ⟨hx.1, h.rows hx.2⟩
theorem YaMem.tame {yb : Nat} {A : Option Addr} {n c : Nat} {B : Option Addr} {m d : Nat} {wr : Int} {ms : List Sp} {cs : List Cm5} {W W' : World} {b : Nat} (h : YaMem yb A n c B m d wr ms cs W) (ht : Tame b W W') : YaMem yb A n c B m d wr ms cs W' := ⟨ht.blk h.blk, ht.sps h.HM, cms_tame ht h.HC⟩
theorem YaMem.below {yb : Nat} {A : Option Addr} {n c : Nat} {B : Option Addr} {m d : Nat} {wr : Int} {ms : List Sp} {cs : List Cm5} {W W' : World} (h : YaMem yb A n c B m d wr ms cs W) (hb : Below W.heap.size W W') : YaMem yb A n c B m d wr ms cs W' := h.tame (b := 0) (.of_below hb)
def TrAt (n : Nat) (ms : List Sp) (cs : List Cm5) (s : Nat) (args : Array Value) : Prop := args = #[.int .u64 s, .agg (tbV (trT n ms cs s))]
theorem trT_sz {n : Nat} {ms : List Sp} {cs : List Cm5} {s : Nat} : (tbV (trT n ms cs s)).size = 36 := by unfold tbV trT; simp [clT_len]
set_option maxRecDepth 100000 in
set_option maxHeartbeats 3200000 in
theorem truths1_c (yb : Nat) (A : Option Addr) (n c : Nat) (B : Option Addr) (m d : Nat) (wr : Int) (ms : List Sp) (cs : List Cm5) (hck : ckY n m ms cs wr = true) :
    IterT Try.prog 64 #[] #[.pointer (some ⟨yb, 0, none⟩)] (YaMem yb A n c B m d wr ms cs) (trsY n m ms cs wr) (TrAt n ms cs) := by
  intro l J Jx W hM hS hX hY h0
  obtain ⟨hn5, hm8, -, -⟩ := ckY_n hck
  have enA : ∀ args w, (callFunc 65 args).run Try.prog w = .ok (.enter 65 args) w := enters_of Try.func65 (by kernel_rfl) rfl
  have M0 := hM 0 W h0
  have hml : ms.length = n := M0.HM.1
  have hcl : cs.length = m := M0.HC.1
  have hF1 : ∀ s : Nat, EdOk n (eds5 ms cs fun k => !s.testBit k) ∧ (eds5 ms cs fun k => !s.testBit k).length ≤ 1000 := fun s : Nat => by
    constructor
    · rw [← hml]
      exact edOk_eds (fun i hi => by have := ckY_c hck (k := i) (by omega); omega)
    · unfold eds5
      have := edCs_len (cs := cs) (right := fun k => !s.testBit k) cs.length
      rw [List.length_append, edMs_len]
      omega
  have HEC := Lib.hid (fun (s g : Nat) (V : World) (hs : s < 256) (hV : YaMem yb A n c B m d wr ms cs V) (hB : Blk V g 74 #[.int .u64 s]) => edges_c A n c B m d wr ms cs 65 #[] #[.pointer (some ⟨g, 0, none⟩)] (fun k => !s.testBit k) V hV.HM hV.HC hck enA (fun k hk w' hb => by
    have := (truths11_c g s k w' (by omega) (by omega) ((hB.below hb hB.lt).cell 0)).mono (R' := fun e w'' => e = .returned (.bool (!s.testBit k)) ∧ Below w'.heap.size w' w'') (fun e w'' ⟨h1, h2⟩ => ⟨h1, h2 ▸ Below.refl _ _⟩)
    simpa using this))
  have HCC := Lib.hid (fun (s : Nat) L c' V (hL : EdsAt V L (eds5 ms cs fun k => !s.testBit k).length (eds5 ms cs fun k => !s.testBit k)) => closure_c n L _ c' _ V hn5 (hF1 s).2 (hF1 s).1 hL)
  have HM := Lib.hid hM
  have HS := Lib.hid hS
  have HX := Lib.hid hX
  have HY := Lib.hid hY
  have H0 := Lib.hid h0
  obtain ⟨q, hq⟩ : ∃ q, min wr (m : Int) = q := ⟨_, rfl⟩
  have HSL := Lib.hid (fun s (h : s ∈ setsL m q) => setsL_lt h hm8)
  obtain ⟨xs, hxs⟩ : ∃ xs, setsL m q = xs := ⟨_, rfl⟩
  obtain ⟨ys, hys⟩ : ∃ ys, trsY n m ms cs wr = ys := ⟨_, rfl⟩
  have hyx : ys = xs.filter fun s => clB n (trT n ms cs s) := by rw [← hys, ← hxs, ← hq]; rfl
  have HYX := Lib.hid hyx
  have HIT : Hid (∀ b1 b2, IterT Try.prog 49 #[] #[.pointer (some ⟨b1, 0, none⟩), .pointer (some ⟨b2, 0, none⟩)] (SetMem b1 b2 m q) xs SetAt) := Lib.hid (fun b1 b2 => by rw [← hxs]; exact sets1_c b1 b2 m q hm8)
  have HXS := Lib.hid hxs
  have HSL2 : Hid (∀ s, s ∈ xs → s < 256) := Lib.hid (fun s h => HSL.out s (by rw [HXS.out]; exact h))
  rw [hys] at HY ⊢
  clear hM hS hX hY h0 hys hyx hxs hml hcl hF1 hck enA
  show Calls Try.prog 64 #[.func (.yield l) #[] #[], .pointer (some ⟨yb, 0, none⟩)] W _
  refine (callsIn_wide (n := 6)).1 (callsIn_of_wp_marks Try.func64 rfl trivial ?_ rfl)
  simp only [Try.ntmps64, List.size_toArray, List.length_cons, List.length_nil, Nat.reduceAdd, Nat.reduceSub, Array.replicate_succ, Array.replicate_zero, List.push_toArray, List.append_toArray, List.nil_append, List.cons_append]
  have qy := M0.blk.cell
  have ly := M0.blk.lt
  clear M0
  gi_wp2_with (refine ⟨trivial, ?_⟩; gi_at_call 27; refine callsIn_wide.2 ((sets_c m _ _).mono ?_))
  rintro e w1 ⟨b1, b2, rfl, hbb, hsm, hb1⟩
  obtain ⟨X, hX⟩ : ∃ X, W.alloc (.cells #[.func (.yield l) #[] #[]] 126) = X := ⟨_, rfl⟩
  rw [hX] at hb1
  have BX : Below W.heap.size W X := (al1 hX).1
  have zX : X.heap.size = W.heap.size + 1 := (al1 hX).2
  rw [hX] at hbb
  replace hbb : W.heap.size ≤ b1 ∧ W.heap.size ≤ b2 := by omega
  have HB0 : Hid (Blk X W.heap.size 126 #[.func (.yield l) #[] #[]]) := by rw [← hX]; exact Lib.hid (Blk.new W _ _)
  have hb2 : Below W.heap.size W w1 := BX.trans (hb1.mono (by omega))
  have z1 := hb2.size
  have HB1 := Lib.hid (HB0.out.below hb1 HB0.out.lt)
  have HJ1 := Lib.hid (HS.out _ _ _ H0.out (Tame.of_below hb2))
  have HSM := Lib.hid hsm
  clear hX hsm qy ly hb1
  gi_wp2
  have en := enters_of Try.func49 (by kernel_rfl) rfl
  refine wpIn_rangeT (gf := 49) (fst := #[]) (lb := #[.pointer (some ⟨b1, 0, none⟩), .pointer (some ⟨b2, 0, none⟩)]) rfl en (HIT.out b1 b2) (fun s args h => by rw [show args = _ from h]; rfl)
    (fun k W1 => J (cnt5 (fun s => clB n (trT n ms cs s)) xs k) W1 ∧ SetMem b1 b2 m q W1 ∧ Blk W1 W.heap.size 126 #[.func (.yield l) #[] #[]])
    (fun c W1 => c = .ret ∧ Jx W1) ?hI ?hIx ?hmem ?h0 ?hround ?hdone ?hstop
  case hI => exact fun k W1 W2 ⟨h1, h2, h3⟩ ht => ⟨HS.out _ _ _ h1 (ht.mono z1), h2.tame ht, ht.blk h3⟩
  case hIx => exact fun c W1 W2 ⟨h1, h2⟩ ht => ⟨h1, HX.out _ _ h2 (ht.mono z1)⟩
  case hmem => exact fun k W1 h => h.2.1
  case h0 => exact ⟨HJ1.out, HSM.out, HB1.out⟩
  case hround =>
    rintro l' k s args W1 hl' hz hx ⟨hJ, hsm, hyb⟩ rfl
    have HXK := Lib.hid hx
    have HJ := Lib.hid hJ
    have HSM1 := Lib.hid hsm
    have HYB := Lib.hid hyb
    have hs := HSL2.out s (List.mem_of_getElem? hx)
    have HEC1 := Lib.hid (HEC.out s W1.heap.size)
    have HCC1 := Lib.hid (HCC.out s)
    have htz : Hid ((tbV (trT n ms cs s)).size = 36) := Lib.hid trT_sz
    have HHS := Lib.hid hs
    obtain ⟨F, hF⟩ : ∃ F, (eds5 ms cs fun k => !s.testBit k) = F := ⟨_, rfl⟩
    obtain ⟨T, hT⟩ : ∃ T, trT n ms cs s = T := ⟨_, rfl⟩
    have hT' : clT n F = T := by rw [← hF, ← hT]; rfl
    obtain ⟨b, hb⟩ : ∃ b, clB n T = b := ⟨_, rfl⟩
    have hpb : Hid ((fun s => clB n (trT n ms cs s)) s = b) := Lib.hid (by rw [← hb, ← hT])
    have hTA : Hid (TrAt n ms cs s #[.int .u64 s, .agg (tbV T)]) := Lib.hid (by unfold TrAt; rw [hT])
    rw [hF] at HEC1 HCC1
    rw [hT', hb] at HCC1
    rw [hT] at htz
    have hsz : Hid ((Try.prog.info? 104).map (·.size) = some (tbV T).size) := Lib.hid (by rw [htz.out]; kernel_rfl)
    have hone : Hid ((tbV T).all (·.oneCell') = true) := Lib.hid (by unfold tbV; simp [Value.oneCell'])
    clear hx hJ hsm hyb hs hF hT hT' hb
    gi_wp2
    refine ⟨KeepC.alloc _, fun W2 ht => ?_⟩
    have hb12 : Below W1.heap.size W1 (W1.alloc (.cells #[.int .u64 s] 74)) := by (repeat first | with_reducible assumption | with_reducible exact Below.refl _ _ | (with_reducible refine Below.alloc ?_ ?side _; case side => (first | omega | (with_reducible exact Below.size (by assumption)) | (simp; done) | (simp; omega))) | (with_reducible refine Below.setCell ?_ ?side _; case side => (first | omega | (with_reducible exact Below.size (by assumption)) | (simp; done) | (simp; omega))) | with_reducible refine Below.drew ?_ | with_reducible refine below_drewN ?_ _ | (with_reducible refine below_step (by assumption) ?side ?_; case side => (first | omega | (with_reducible exact Below.size (by assumption)) | (simp; done) | (simp; omega))))
    have HJ2 := Lib.hid (HS.out _ _ _ (HS.out _ _ _ HJ.out (Tame.of_below hb12)) (ht.mono z1))
    have HSM2 := Lib.hid ((HSM1.out.below hb12).tame ht)
    have HYB2 := Lib.hid (ht.blk (HYB.out.below hb12 HYB.out.lt))
    have HSB2 : Hid (Blk W2 W1.heap.size 74 #[.int .u64 s]) := Lib.hid (ht.blk (Blk.new W1 _ _))
    have HYM2 := Lib.hid (HM.out _ _ HJ2.out)
    have HEC2 : Hid (∀ V, Below W2.heap.size W2 V → Calls Try.prog 52 #[.agg #[.slice A n c, .slice B m d, .int .i64 wr], .func (.func 65) #[] #[.pointer (some ⟨W1.heap.size, 0, none⟩)]] V fun e w' => ∃ L c', e = .returned (.slice L F.length c') ∧ EdsAt w' L F.length F ∧ Below V.heap.size V w') := Lib.hid (fun V hV => HEC1.out V HHS.out (HYM2.out.below hV) (HSB2.out.below hV HSB2.out.lt))
    have HSS : Hid (∀ W', Below W2.heap.size W2 W' → ∀ j, W'.cell? ⟨yb, j, none⟩ = #[Value.slice A n c, .slice B m d, .int .i64 wr][j]?) := Lib.hid (fun W' h => (HYM2.out.below h).blk.cell)
    have z2 : w1.heap.size ≤ W2.heap.size := by have := ht.size; rw [World.size_alloc] at this; omega
    clear ht hb12 HJ HSM1 HYB
    gi_wp2
    obtain ⟨Y, hY⟩ : ∃ Y, W2.drew = Y := ⟨_, rfl⟩
    have BY : Below W2.heap.size W2 Y := by rw [← hY]; (repeat first | with_reducible assumption | with_reducible exact Below.refl _ _ | (with_reducible refine Below.alloc ?_ ?side _; case side => (first | omega | (with_reducible exact Below.size (by assumption)) | (simp; done) | (simp; omega))) | (with_reducible refine Below.setCell ?_ ?side _; case side => (first | omega | (with_reducible exact Below.size (by assumption)) | (simp; done) | (simp; omega))) | with_reducible refine Below.drew ?_ | with_reducible refine below_drewN ?_ _ | (with_reducible refine below_step (by assumption) ?side ?_; case side => (first | omega | (with_reducible exact Below.size (by assumption)) | (simp; done) | (simp; omega))))
    refine wpIn_mono (Q := fun e a' V => e = .normal ∧ ∃ (g : Nat) (u6 u7 u8 u9 u10 u11 u12 u13 u14 u15 u16 u17 u18 u19 u20 u21 u22 u23 u24 u25 u26 u27 u28 u29 u30 u31 u32 u33 u34 : Value), a' = { tmps := #[.func (.yield l) #[] #[], .pointer (some ⟨yb, 0, none⟩), .pointer (some ⟨W.heap.size, 0, none⟩), .pointer (some ⟨W1.heap.size, 0, none⟩), .pointer (some ⟨g, 0, none⟩), .bool b, u6, u7, u8, u9, u10, u11, u12, u13, u14, u15, u16, u17, u18, u19, u20, u21, u22, u23, u24, u25, u26, u27, u28, u29, u30, u31, u32, u33, u34], defers := [] } ∧ Below W2.heap.size W2 V ∧ Blk V g 104 (tbV T)) ?first ?rest
    case first =>
      as_aux_lemma =>
        have HEC := HEC2
        have HCC := HCC1
        refine wpIn_region_K (by kernel_rfl) (fun W' => ∀ j, W'.cell? ⟨yb, j, none⟩ = #[Value.slice A n c, .slice B m d, .int .i64 wr][j]?) ?_
        rw [show ({ W2 with drawn := W2.drawn + 1 } : World) = Y from hY]
        clear hY
        have hS := HSS.out Y BY
        refine wpAnyK_take (fun _ => trivial) (by rfl) (i := 0) (v := ?_) rfl (by kernel_rfl) (by kernel_rfl) (by kernel_rfl) (fun _ _ _ h => by cases h.1) hS (Or.inl ⟨by rfl, ?_⟩) ?_
        rotate_left 1
        · intro w9 hw9
          have s0 := hw9
          go_simp
          try with_reducible rfl
        try simp only [List.getElem_toArray, List.getElem_cons_zero, List.getElem_cons_succ, Act.put, List.setIfInBounds_toArray, List.set_cons_zero, List.set_cons_succ]
        refine wpAnyK_take (fun _ => trivial) (by rfl) (i := 1) (v := ?_) rfl (by kernel_rfl) (by kernel_rfl) (by kernel_rfl) (fun _ _ _ h => by cases h.1) hS (Or.inl ⟨by rfl, ?_⟩) ?_
        rotate_left 1
        · intro w9 hw9
          have s0 := hw9
          go_simp
          try with_reducible rfl
        try simp only [List.getElem_toArray, List.getElem_cons_zero, List.getElem_cons_succ, Act.put, List.setIfInBounds_toArray, List.set_cons_zero, List.set_cons_succ]
        refine wpAnyK_take (fun _ => trivial) (by rfl) (i := 2) (v := ?_) rfl (by kernel_rfl) (by kernel_rfl) (by kernel_rfl) (fun _ _ _ h => by cases h.1) hS (Or.inl ⟨by rfl, ?_⟩) ?_
        rotate_left 1
        · intro w9 hw9
          have s0 := hw9
          go_simp
          try with_reducible rfl
        try simp only [List.getElem_toArray, List.getElem_cons_zero, List.getElem_cons_succ, Act.put, List.setIfInBounds_toArray, List.set_cons_zero, List.set_cons_succ]
        refine wpAnyK_take (fun _ => trivial) (by rfl) (i := 3) (v := ?_) rfl (by kernel_rfl) (by kernel_rfl) (by kernel_rfl) (fun _ _ _ h => by cases h.1) hS (Or.inl ⟨by rfl, ?_⟩) ?_
        rotate_left 1
        · intro w9 hw9
          have s0 := hw9
          go_simp
          try with_reducible rfl
        try simp only [List.getElem_toArray, List.getElem_cons_zero, List.getElem_cons_succ, Act.put, List.setIfInBounds_toArray, List.set_cons_zero, List.set_cons_succ]
        refine wpAnyK_take (fun _ => trivial) (by rfl) (i := 4) (v := ?_) rfl (by kernel_rfl) (by kernel_rfl) (by kernel_rfl) (fun _ _ _ h => by cases h.1) hS (Or.inl ⟨by rfl, ?_⟩) ?_
        rotate_left 1
        · intro w9 hw9
          have s0 := hw9
          go_simp
          try with_reducible rfl
        try simp only [List.getElem_toArray, List.getElem_cons_zero, List.getElem_cons_succ, Act.put, List.setIfInBounds_toArray, List.set_cons_zero, List.set_cons_succ]
        clear hS
        refine wpAnyK_two (i := 5) (j := 10) (by kernel_rfl) rfl rfl (fun K hK => ?_) (fun K hK => ?_)
        · skip
          try refine wpAnyK_one (i := 5) (by kernel_rfl) rfl (fun K hK => ?_)
          go_simp
          first | refine ⟨trivial, CallsIn.inRound _ (callsIn_wide.2 ((HEC.out _ BY).mono ?_))⟩ | refine ⟨trivial, callsIn_wide.2 ((HEC.out _ BY).mono ?_)⟩
          rintro e w5 ⟨L5, c5, rfl, hL5, hb5⟩
          have HL5 := Lib.hid hL5
          have B5 := Below.trans BY (hb5.mono (Below.size BY))
          have HB5 := Lib.hid hb5
          clear hb5 hL5
          refine hK.out _ _ (HSS.out _ B5) (fun _ => ?_)
          clear hK K
          try simp only [List.getElem_toArray, List.getElem_cons_zero, List.getElem_cons_succ, Act.put, List.setIfInBounds_toArray, List.set_cons_zero, List.set_cons_succ]
          refine wpAnyK_two (i := 6) (j := 10) (by kernel_rfl) rfl rfl (fun K hK => ?_) (fun K hK => ?_)
          · skip
            try refine wpAnyK_one (i := 6) (by kernel_rfl) rfl (fun K hK => ?_)
            go_simp
            first | refine ⟨trivial, CallsIn.inRound _ (callsIn_wide.2 ((HCC.out L5 c5 _ HL5.out).mono ?_))⟩ | refine ⟨trivial, callsIn_wide.2 ((HCC.out L5 c5 _ HL5.out).mono ?_)⟩
            rintro e w6 ⟨rfl, hb6⟩
            have B6 := Below.trans B5 (hb6.mono (Below.size B5))
            have HB6 := Lib.hid hb6
            clear hb6
            refine hK.out _ _ (HSS.out _ B6) (fun _ => ?_)
            clear hK K
            try simp only [List.getElem_toArray, List.getElem_cons_zero, List.getElem_cons_succ, Act.put, List.setIfInBounds_toArray, List.set_cons_zero, List.set_cons_succ]
            have hS := HSS.out _ B6
            refine wpAnyK_take (fun _ => trivial) (by rfl) (i := 7) (v := ?_) rfl (by kernel_rfl) (by kernel_rfl) (by kernel_rfl) (fun _ _ _ h => by cases h.1) hS (Or.inl ⟨by rfl, ?_⟩) ?_
            rotate_left 1
            · intro w9 hw9
              have s0 := hw9
              go_simp
              try with_reducible rfl
            try simp only [List.getElem_toArray, List.getElem_cons_zero, List.getElem_cons_succ, Act.put, List.setIfInBounds_toArray, List.set_cons_zero, List.set_cons_succ]
            refine wpAnyK_take (fun _ => trivial) (by rfl) (i := 8) (v := ?_) rfl (by kernel_rfl) (by kernel_rfl) (by kernel_rfl) (fun _ _ _ h => by cases h.1) hS (Or.inl ⟨by rfl, ?_⟩) ?_
            rotate_left 1
            · intro w9 hw9
              have s0 := hw9
              go_simp
              try with_reducible rfl
            try simp only [List.getElem_toArray, List.getElem_cons_zero, List.getElem_cons_succ, Act.put, List.setIfInBounds_toArray, List.set_cons_zero, List.set_cons_succ]
            refine wpAnyK_take (fun _ => trivial) (by rfl) (i := 9) (v := ?_) rfl (by kernel_rfl) (by kernel_rfl) (by kernel_rfl) (fun _ _ _ h => by cases h.1) hS (Or.inl ⟨by rfl, ?_⟩) ?_
            rotate_left 1
            · intro w9 hw9
              have s0 := hw9
              go_simp
              try with_reducible rfl
            try simp only [List.getElem_toArray, List.getElem_cons_zero, List.getElem_cons_succ, Act.put, List.setIfInBounds_toArray, List.set_cons_zero, List.set_cons_succ]
            clear hS
            try refine wpAnyK_one (i := 10) (by kernel_rfl) rfl (fun K hK => ?_)
            go_simp
            obtain ⟨Z, c0, hc0, hz0, BZ0, HZ0⟩ : ∃ (Z : World) (c0 : Array Value), c0.size = 36 ∧ World.alloc w6 (.cells #[.int .i64 0, .int .i64 0, .int .i64 0, .int .i64 0, .int .i64 0, .int .i64 0, .int .i64 0, .int .i64 0, .int .i64 0, .int .i64 0, .int .i64 0, .int .i64 0, .int .i64 0, .int .i64 0, .int .i64 0, .int .i64 0, .int .i64 0, .int .i64 0, .int .i64 0, .int .i64 0, .int .i64 0, .int .i64 0, .int .i64 0, .int .i64 0, .int .i64 0, .int .i64 0, .int .i64 0, .int .i64 0, .int .i64 0, .int .i64 0, .int .i64 0, .int .i64 0, .int .i64 0, .int .i64 0, .int .i64 0, .int .i64 0] 104) = Z ∧ Below (w6).heap.size w6 Z ∧ Blk Z (w6).heap.size 104 c0 := ⟨_, _, rfl, rfl, (Below.refl _ _).alloc (Nat.le_refl _) _, Blk.new _ _ _⟩
            rw [hz0]
            clear hz0
            have HZ0 := Lib.hid HZ0
            have BZ := Below.trans B6 (BZ0.mono (Below.size B6))
            refine hK.out _ _ (HSS.out _ BZ) (fun _ => ?_)
            clear hK K
            try simp only [List.getElem_toArray, List.getElem_cons_zero, List.getElem_cons_succ, Act.put, List.setIfInBounds_toArray, List.set_cons_zero, List.set_cons_succ]
            have hst := (HZ0).out
            have hlt := hst.lt
            refine wpAnyK_one (i := 11) (by kernel_rfl) rfl (fun K hK => ?_)
            rw [if_pos (by rfl)]
            refine wpIn_store_row 104 (.tmp 4) (.tmp 25) rfl (fun _ => trivial) _ (tbV T) rfl rfl 104 c0 hst hsz.out (by rw [hc0, htz.out]) hone.out ?_
            have B7 := below_setRow (cs := tbV T) BZ B6.size
            refine hK.out _ _ (HSS.out _ B7) (fun _ => ?_)
            clear hK K
            try simp only [List.getElem_toArray, List.getElem_cons_zero, List.getElem_cons_succ, Act.put, List.setIfInBounds_toArray, List.set_cons_zero, List.set_cons_succ]
            have hS := HSS.out _ B7
            refine wpAnyK_take (fun _ => trivial) (by rfl) (i := 12) (v := ?_) rfl (by kernel_rfl) (by kernel_rfl) (by kernel_rfl) (fun _ _ _ h => by cases h.1) hS (Or.inl ⟨by rfl, ?_⟩) ?_
            rotate_left 1
            · intro w9 hw9
              have s0 := hw9
              go_simp
              try with_reducible rfl
            try simp only [List.getElem_toArray, List.getElem_cons_zero, List.getElem_cons_succ, Act.put, List.setIfInBounds_toArray, List.set_cons_zero, List.set_cons_succ]
            refine wpAnyK_done (by kernel_rfl) ?_ _
            exact ⟨rfl, _, _, _, _, _, _, _, _, _, _, _, _, _, _, _, _, _, _, _, _, _, _, _, _, _, _, _, _, _, _, rfl, B7, blk_setRow HZ0.out⟩
          · skip
            try refine wpAnyK_one (i := 10) (by kernel_rfl) rfl (fun K hK => ?_)
            go_simp
            obtain ⟨Z, c0, hc0, hz0, BZ0, HZ0⟩ : ∃ (Z : World) (c0 : Array Value), c0.size = 36 ∧ World.alloc w5 (.cells #[.int .i64 0, .int .i64 0, .int .i64 0, .int .i64 0, .int .i64 0, .int .i64 0, .int .i64 0, .int .i64 0, .int .i64 0, .int .i64 0, .int .i64 0, .int .i64 0, .int .i64 0, .int .i64 0, .int .i64 0, .int .i64 0, .int .i64 0, .int .i64 0, .int .i64 0, .int .i64 0, .int .i64 0, .int .i64 0, .int .i64 0, .int .i64 0, .int .i64 0, .int .i64 0, .int .i64 0, .int .i64 0, .int .i64 0, .int .i64 0, .int .i64 0, .int .i64 0, .int .i64 0, .int .i64 0, .int .i64 0, .int .i64 0] 104) = Z ∧ Below (w5).heap.size w5 Z ∧ Blk Z (w5).heap.size 104 c0 := ⟨_, _, rfl, rfl, (Below.refl _ _).alloc (Nat.le_refl _) _, Blk.new _ _ _⟩
            rw [hz0]
            clear hz0
            have HZ0 := Lib.hid HZ0
            have BZ := Below.trans B5 (BZ0.mono (Below.size B5))
            refine hK.out _ _ (HSS.out _ BZ) (fun _ => ?_)
            clear hK K
            try simp only [List.getElem_toArray, List.getElem_cons_zero, List.getElem_cons_succ, Act.put, List.setIfInBounds_toArray, List.set_cons_zero, List.set_cons_succ]
            try refine wpAnyK_one (i := 6) (by kernel_rfl) rfl (fun K hK => ?_)
            go_simp
            first | refine ⟨trivial, CallsIn.inRound _ (callsIn_wide.2 ((HCC.out L5 c5 _ (HL5.out.later BZ0)).mono ?_))⟩ | refine ⟨trivial, callsIn_wide.2 ((HCC.out L5 c5 _ (HL5.out.later BZ0)).mono ?_)⟩
            rintro e w6 ⟨rfl, hb6⟩
            have B6 := Below.trans BZ (hb6.mono (Below.size BZ))
            have HB6 := Lib.hid hb6
            clear hb6
            refine hK.out _ _ (HSS.out _ B6) (fun _ => ?_)
            clear hK K
            try simp only [List.getElem_toArray, List.getElem_cons_zero, List.getElem_cons_succ, Act.put, List.setIfInBounds_toArray, List.set_cons_zero, List.set_cons_succ]
            have hS := HSS.out _ B6
            refine wpAnyK_take (fun _ => trivial) (by rfl) (i := 7) (v := ?_) rfl (by kernel_rfl) (by kernel_rfl) (by kernel_rfl) (fun _ _ _ h => by cases h.1) hS (Or.inl ⟨by rfl, ?_⟩) ?_
            rotate_left 1
            · intro w9 hw9
              have s0 := hw9
              go_simp
              try with_reducible rfl
            try simp only [List.getElem_toArray, List.getElem_cons_zero, List.getElem_cons_succ, Act.put, List.setIfInBounds_toArray, List.set_cons_zero, List.set_cons_succ]
            refine wpAnyK_take (fun _ => trivial) (by rfl) (i := 8) (v := ?_) rfl (by kernel_rfl) (by kernel_rfl) (by kernel_rfl) (fun _ _ _ h => by cases h.1) hS (Or.inl ⟨by rfl, ?_⟩) ?_
            rotate_left 1
            · intro w9 hw9
              have s0 := hw9
              go_simp
              try with_reducible rfl
            try simp only [List.getElem_toArray, List.getElem_cons_zero, List.getElem_cons_succ, Act.put, List.setIfInBounds_toArray, List.set_cons_zero, List.set_cons_succ]
            refine wpAnyK_take (fun _ => trivial) (by rfl) (i := 9) (v := ?_) rfl (by kernel_rfl) (by kernel_rfl) (by kernel_rfl) (fun _ _ _ h => by cases h.1) hS (Or.inl ⟨by rfl, ?_⟩) ?_
            rotate_left 1
            · intro w9 hw9
              have s0 := hw9
              go_simp
              try with_reducible rfl
            try simp only [List.getElem_toArray, List.getElem_cons_zero, List.getElem_cons_succ, Act.put, List.setIfInBounds_toArray, List.set_cons_zero, List.set_cons_succ]
            clear hS
            have HZ1 := Lib.hid (HZ0.out.below HB6.out HZ0.out.lt)
            have hst := (HZ1).out
            have hlt := hst.lt
            refine wpAnyK_one (i := 11) (by kernel_rfl) rfl (fun K hK => ?_)
            rw [if_pos (by rfl)]
            refine wpIn_store_row 104 (.tmp 4) (.tmp 25) rfl (fun _ => trivial) _ (tbV T) rfl rfl 104 c0 hst hsz.out (by rw [hc0, htz.out]) hone.out ?_
            have B7 := below_setRow (cs := tbV T) B6 B5.size
            refine hK.out _ _ (HSS.out _ B7) (fun _ => ?_)
            clear hK K
            try simp only [List.getElem_toArray, List.getElem_cons_zero, List.getElem_cons_succ, Act.put, List.setIfInBounds_toArray, List.set_cons_zero, List.set_cons_succ]
            have hS := HSS.out _ B7
            refine wpAnyK_take (fun _ => trivial) (by rfl) (i := 12) (v := ?_) rfl (by kernel_rfl) (by kernel_rfl) (by kernel_rfl) (fun _ _ _ h => by cases h.1) hS (Or.inl ⟨by rfl, ?_⟩) ?_
            rotate_left 1
            · intro w9 hw9
              have s0 := hw9
              go_simp
              try with_reducible rfl
            try simp only [List.getElem_toArray, List.getElem_cons_zero, List.getElem_cons_succ, Act.put, List.setIfInBounds_toArray, List.set_cons_zero, List.set_cons_succ]
            refine wpAnyK_done (by kernel_rfl) ?_ _
            exact ⟨rfl, _, _, _, _, _, _, _, _, _, _, _, _, _, _, _, _, _, _, _, _, _, _, _, _, _, _, _, _, _, _, rfl, B7, blk_setRow HZ1.out⟩
        · skip
          try refine wpAnyK_one (i := 10) (by kernel_rfl) rfl (fun K hK => ?_)
          go_simp
          obtain ⟨Z, c0, hc0, hz0, BZ0, HZ0⟩ : ∃ (Z : World) (c0 : Array Value), c0.size = 36 ∧ World.alloc Y (.cells #[.int .i64 0, .int .i64 0, .int .i64 0, .int .i64 0, .int .i64 0, .int .i64 0, .int .i64 0, .int .i64 0, .int .i64 0, .int .i64 0, .int .i64 0, .int .i64 0, .int .i64 0, .int .i64 0, .int .i64 0, .int .i64 0, .int .i64 0, .int .i64 0, .int .i64 0, .int .i64 0, .int .i64 0, .int .i64 0, .int .i64 0, .int .i64 0, .int .i64 0, .int .i64 0, .int .i64 0, .int .i64 0, .int .i64 0, .int .i64 0, .int .i64 0, .int .i64 0, .int .i64 0, .int .i64 0, .int .i64 0, .int .i64 0] 104) = Z ∧ Below (Y).heap.size Y Z ∧ Blk Z (Y).heap.size 104 c0 := ⟨_, _, rfl, rfl, (Below.refl _ _).alloc (Nat.le_refl _) _, Blk.new _ _ _⟩
          rw [hz0]
          clear hz0
          have HZ0 := Lib.hid HZ0
          have BZ := Below.trans BY (BZ0.mono (Below.size BY))
          refine hK.out _ _ (HSS.out _ BZ) (fun _ => ?_)
          clear hK K
          try simp only [List.getElem_toArray, List.getElem_cons_zero, List.getElem_cons_succ, Act.put, List.setIfInBounds_toArray, List.set_cons_zero, List.set_cons_succ]
          try refine wpAnyK_one (i := 5) (by kernel_rfl) rfl (fun K hK => ?_)
          go_simp
          first | refine ⟨trivial, CallsIn.inRound _ (callsIn_wide.2 ((HEC.out _ BZ).mono ?_))⟩ | refine ⟨trivial, callsIn_wide.2 ((HEC.out _ BZ).mono ?_)⟩
          rintro e w5 ⟨L5, c5, rfl, hL5, hb5⟩
          have HL5 := Lib.hid hL5
          have B5 := Below.trans BZ (hb5.mono (Below.size BZ))
          have HB5 := Lib.hid hb5
          clear hb5 hL5
          refine hK.out _ _ (HSS.out _ B5) (fun _ => ?_)
          clear hK K
          try simp only [List.getElem_toArray, List.getElem_cons_zero, List.getElem_cons_succ, Act.put, List.setIfInBounds_toArray, List.set_cons_zero, List.set_cons_succ]
          try refine wpAnyK_one (i := 6) (by kernel_rfl) rfl (fun K hK => ?_)
          go_simp
          first | refine ⟨trivial, CallsIn.inRound _ (callsIn_wide.2 ((HCC.out L5 c5 _ HL5.out).mono ?_))⟩ | refine ⟨trivial, callsIn_wide.2 ((HCC.out L5 c5 _ HL5.out).mono ?_)⟩
          rintro e w6 ⟨rfl, hb6⟩
          have B6 := Below.trans B5 (hb6.mono (Below.size B5))
          have HB6 := Lib.hid hb6
          clear hb6
          refine hK.out _ _ (HSS.out _ B6) (fun _ => ?_)
          clear hK K
          try simp only [List.getElem_toArray, List.getElem_cons_zero, List.getElem_cons_succ, Act.put, List.setIfInBounds_toArray, List.set_cons_zero, List.set_cons_succ]
          have hS := HSS.out _ B6
          refine wpAnyK_take (fun _ => trivial) (by rfl) (i := 7) (v := ?_) rfl (by kernel_rfl) (by kernel_rfl) (by kernel_rfl) (fun _ _ _ h => by cases h.1) hS (Or.inl ⟨by rfl, ?_⟩) ?_
          rotate_left 1
          · intro w9 hw9
            have s0 := hw9
            go_simp
            try with_reducible rfl
          try simp only [List.getElem_toArray, List.getElem_cons_zero, List.getElem_cons_succ, Act.put, List.setIfInBounds_toArray, List.set_cons_zero, List.set_cons_succ]
          refine wpAnyK_take (fun _ => trivial) (by rfl) (i := 8) (v := ?_) rfl (by kernel_rfl) (by kernel_rfl) (by kernel_rfl) (fun _ _ _ h => by cases h.1) hS (Or.inl ⟨by rfl, ?_⟩) ?_
          rotate_left 1
          · intro w9 hw9
            have s0 := hw9
            go_simp
            try with_reducible rfl
          try simp only [List.getElem_toArray, List.getElem_cons_zero, List.getElem_cons_succ, Act.put, List.setIfInBounds_toArray, List.set_cons_zero, List.set_cons_succ]
          refine wpAnyK_take (fun _ => trivial) (by rfl) (i := 9) (v := ?_) rfl (by kernel_rfl) (by kernel_rfl) (by kernel_rfl) (fun _ _ _ h => by cases h.1) hS (Or.inl ⟨by rfl, ?_⟩) ?_
          rotate_left 1
          · intro w9 hw9
            have s0 := hw9
            go_simp
            try with_reducible rfl
          try simp only [List.getElem_toArray, List.getElem_cons_zero, List.getElem_cons_succ, Act.put, List.setIfInBounds_toArray, List.set_cons_zero, List.set_cons_succ]
          clear hS
          have HZ1 := Lib.hid (HZ0.out.below (HB5.out.trans (HB6.out.mono HB5.out.size)) HZ0.out.lt)
          have hst := (HZ1).out
          have hlt := hst.lt
          refine wpAnyK_one (i := 11) (by kernel_rfl) rfl (fun K hK => ?_)
          rw [if_pos (by rfl)]
          refine wpIn_store_row 104 (.tmp 4) (.tmp 25) rfl (fun _ => trivial) _ (tbV T) rfl rfl 104 c0 hst hsz.out (by rw [hc0, htz.out]) hone.out ?_
          have B7 := below_setRow (cs := tbV T) B6 BY.size
          refine hK.out _ _ (HSS.out _ B7) (fun _ => ?_)
          clear hK K
          try simp only [List.getElem_toArray, List.getElem_cons_zero, List.getElem_cons_succ, Act.put, List.setIfInBounds_toArray, List.set_cons_zero, List.set_cons_succ]
          have hS := HSS.out _ B7
          refine wpAnyK_take (fun _ => trivial) (by rfl) (i := 12) (v := ?_) rfl (by kernel_rfl) (by kernel_rfl) (by kernel_rfl) (fun _ _ _ h => by cases h.1) hS (Or.inl ⟨by rfl, ?_⟩) ?_
          rotate_left 1
          · intro w9 hw9
            have s0 := hw9
            go_simp
            try with_reducible rfl
          try simp only [List.getElem_toArray, List.getElem_cons_zero, List.getElem_cons_succ, Act.put, List.setIfInBounds_toArray, List.set_cons_zero, List.set_cons_succ]
          refine wpAnyK_done (by kernel_rfl) ?_ _
          exact ⟨rfl, _, _, _, _, _, _, _, _, _, _, _, _, _, _, _, _, _, _, _, _, _, _, _, _, _, _, _, _, _, _, rfl, B7, blk_setRow HZ1.out⟩
    case rest =>
      rintro e a' V ⟨rfl, g, u6, u7, u8, u9, u10, u11, u12, u13, u14, u15, u16, u17, u18, u19, u20, u21, u22, u23, u24, u25, u26, u27, u28, u29, u30, u31, u32, u33, u34, ha, hV, hT⟩
      dsimp only at ha
      subst ha
      have zV := hV.size
      have hO : ∀ {k : Nat} {o : Obj}, W2.heap[k]? = some o → V.heap[k]? = some o := fun {k o} h => (hV.block _ (Array.getElem?_eq_some_iff.1 h).1).trans h
      have HJV := Lib.hid (HS.out _ _ _ HJ2.out (Tame.of_below hV))
      have HSMV := Lib.hid (HSM2.out.below hV)
      have HYBV := Lib.hid (HYB2.out.below hV HYB2.out.lt)
      have HSBV := Lib.hid (HSB2.out.below hV HSB2.out.lt)
      have HV := Lib.hid hV
      have HT := Lib.hid hT
      clear hV hT hO hY BY
      cases b
      · have hc := Lib.hid (cnt5_no (p := fun s => clB n (trT n ms cs s)) HXK.out hpb.out)
        gi_wp2
        refine ⟨fun _ h => (by cases h), ?_⟩
        gi_wp2
        exact ⟨.of_below HV.out, by rw [hc.out]; exact HJV.out, HSMV.out, HYBV.out⟩
      · obtain ⟨hc1, hc2⟩ := cnt5_yes (p := fun s => clB n (trT n ms cs s)) HXK.out hpb.out
        rw [← HYX.out] at hc2
        obtain ⟨fn, tmps, assign, body, hy, hR⟩ := HY.out _ s #[.int .u64 s, .agg (tbV T)] V (by omega) hc2 HJV.out hTA.out
        have HC1 := Lib.hid hc1
        have c1 := HYBV.out.cell
        have c2 := HSBV.out.cell
        have l1 := HYBV.out.lt
        have l2 := HSBV.out.lt
        clear hc1 hc2
        gi_wp2_with (refine wpListIn_load_rowG (by rfl) (fun _ => trivial) 104 _ rfl g rfl 104 (tbV T) (0, 0) _ HT.out Try.underlying104 rfl hsz.out ?_)
        refine roundIn_inRound _ ((hR _).mono ?_)
        rintro e W6 ⟨hK6, (⟨rfl, hJ6⟩ | ⟨rfl, hJ6⟩)⟩
        · have HJ6 := Lib.hid hJ6
          have hsm6 := Lib.hid (show SetMem b1 b2 m q W6 from ⟨hK6.blk HSMV.out.1 hbb.1, hK6.blk HSMV.out.2 hbb.2⟩)
          have hyb6 := Lib.hid (hK6.blk HYBV.out (Nat.le_refl _))
          have HK6 := Lib.hid ((KeepC.of_below (B := w1.heap.size) HV.out).trans (hK6.mono z1))
          clear hJ6 hK6 hy hR c1 c2 l1 l2
          gi_wp2
          exact ⟨HK6.out, by rw [HC1.out]; exact HJ6.out, hsm6.out, hyb6.out⟩
        · have HJ6 := Lib.hid hJ6
          have HK6 := Lib.hid ((KeepC.of_below (B := w1.heap.size) HV.out).trans (hK6.mono z1))
          clear hJ6 hK6 hy hR c1 c2 l1 l2
          gi_wp2
          exact ⟨HK6.out, rfl, HJ6.out⟩
  case hdone =>
    rintro D W1 hD ⟨hJ, hsm, hyb⟩ hK
    have hl : cnt5 (fun s => clB n (trT n ms cs s)) xs xs.length = ys.length := by rw [HYX.out]; exact cnt5_full
    rw [hl] at hJ
    have HJ := Lib.hid hJ
    clear hJ hsm hyb hl
    gi_wp2
    exact leave_markN (v := .tuple #[]) hK (fun W' ht => results_none rfl _ _ _) (fun W' ht => ⟨⟨_, rfl⟩, .inl (HS.out _ _ _ HJ.out (ht.mono (by omega)))⟩)
  case hstop =>
    rintro D c W1 hD ⟨rfl, hx⟩ hK
    have HXX := Lib.hid hx
    clear hx
    gi_wp2
    exact leave_mark (v := .tuple #[]) hK (fun W' ht => results_none rfl _ _ _) (fun W' ht => ⟨⟨_, rfl⟩, .inr (HX.out _ _ HXX.out (ht.mono (by omega)))⟩)

end Go.Proofs.Ytcinhibmohkeiaa
