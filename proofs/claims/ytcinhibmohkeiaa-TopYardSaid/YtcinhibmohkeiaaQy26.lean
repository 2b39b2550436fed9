/- differ of checks (layer 5). -/
import Derived.Test.YtcinhibmohkeiaaQy25
import Derived.Shelf.Abstract
import Derived.Laws.EntriesVeiled
import Derived.Handy
import Derived.Deep.DrawnRows
import Derived.Deep.DeepCutAuto
import Derived.BigRegionIn
import Derived.Shelf.RegionOpen
import Derived.Deep.RegionHeld3
import Derived.Laws.CopyRow
namespace Go.Proofs.Ytcinhibmohkeiaa
open Go.RowKit
open Go.Sort (grow)
set_option linter.unusedVariables false
set_option linter.unusedSimpArgs false

attribute [local go_sem] Oper.semAt_some
theorem run_max25 {P : Program} {w : World} (ts : Array TypeId) (t : TypeId) (x y : Int) : (Builtin.max_ ts t #[.int .i64 x, .int .i64 y]).run P w = .ok (.int .i64 (max x y)) w := by
  simp [Builtin.max_, Builtin.max2]
  omega
attribute [local go_sem high] run_min25 run_max25
/-- one more table -/
def dfS (p q : Nat) (o : Option Sp) (T : List Int) : Sp := match o with
  | none => ⟨IntKind.i64.wrap (-(iAt T (p * 6 + q))), iAt T (q * 6 + p)⟩
  | some s => ⟨min s.lo (IntKind.i64.wrap (-(iAt T (p * 6 + q)))), max s.hi (iAt T (q * 6 + p))⟩
/-- the span behind the first k tables -/
def dfK (f : Nat → List Int) (p q : Nat) (xs : List Nat) (k : Nat) : Option Sp := (xs.take k).foldl (fun o s => some (dfS p q o (f s))) none
theorem dfK_succ {f : Nat → List Int} {p q : Nat} {xs : List Nat} {k s : Nat} (h : xs[k]? = some s) : dfK f p q xs (k + 1) = some (dfS p q (dfK f p q xs k) (f s)) := by
  unfold dfK
  rw [List.take_add_one, h, List.foldl_append]
  rfl
def dfR (f : Nat → List Int) (p q : Nat) (xs : List Nat) : Sp := (dfK f p q xs xs.length).getD ⟨0, 0⟩
/-- a whole row is stored within a fence -/
theorem wpListIn_store_rowG {P : Program} {F : Fence} {n : Nat} {ops : Array Oper} {rest : List Oper} {o : Oper} {a : Act} {w : World} {Q : Exit → Act → World → Prop} (hw : Region.wanted o (yielded ops a.tmps) = true) (hn : ∀ f, F.fn f) (ty : TypeId) (x y : Operand) (ho : o.op = .store ty x y)
    (g : Nat) (cells : Array Value) (hx : a.eval x = .pointer (some ⟨g, 0, none⟩)) (hy : a.eval y = .agg cells)
    (t : TypeId) (old : Array Value) (hg : w.heap[g]? = some (.cells old t (0, 0))) (hi : (P.info? ty).map (·.size) = some cells.size)
    (hold : old.size = cells.size) (h1 : cells.all (·.oneCell') = true)
    (h : wpListIn F n P ops Q rest (a.put o.dst undef) (w.setRow g cells)) : wpListIn F n P ops Q (o :: rest) a w := by
  show if _ then _ else _
  rw [if_pos hw]
  exact wpIn_store_row ty x y ho hn g cells hx hy t old hg hi hold h1 h
theorem Blk.new' {W : World} {g : Nat} (hg : W.heap.size = g) (t : TypeId) (cs : Array Value) : Blk (W.alloc (.cells cs t)) g t cs := hg ▸ Blk.new W t cs
theorem al6y {w X : World} {c0 c1 c2 c3 c4 c5 : Array Value} {t0 t1 t2 t3 t4 t5 : TypeId} (hX : ((((((w.alloc (.cells c0 t0)).alloc (.cells c1 t1)).alloc (.cells c2 t2)).alloc (.cells c3 t3)).alloc (.cells c4 t4)).alloc (.cells c5 t5)) = X) :
    Below w.heap.size w X ∧ X.heap.size = w.heap.size + 6 ∧ Blk X w.heap.size t0 c0 ∧ Blk X (w.heap.size + 1) t1 c1 ∧ Blk X (w.heap.size + 1 + 1) t2 c2 ∧ Blk X (w.heap.size + 1 + 1 + 1) t3 c3 ∧ Blk X (w.heap.size + 1 + 1 + 1 + 1) t4 c4 ∧ Blk X (w.heap.size + 1 + 1 + 1 + 1 + 1) t5 c5 := by
  subst hX
  refine ⟨by (repeat first | with_reducible assumption | with_reducible exact Below.refl _ _ | (with_reducible refine Below.alloc ?_ ?side _; case side => (first | omega | (with_reducible exact Below.size (by assumption)) | (simp; done) | (simp; omega))) | (with_reducible refine Below.setCell ?_ ?side _; case side => (first | omega | (with_reducible exact Below.size (by assumption)) | (simp; done) | (simp; omega))) | with_reducible refine Below.drew ?_ | with_reducible refine below_drewN ?_ _ | (with_reducible refine below_step (by assumption) ?side ?_; case side => (first | omega | (with_reducible exact Below.size (by assumption)) | (simp; done) | (simp; omega)))), by simp, ?_, ?_, ?_, ?_, ?_, ?_⟩
  · exact (((((Blk.new w _ _).alloc _).alloc _).alloc _).alloc _).alloc _
  · exact ((((Blk.new' (by simp) _ _).alloc _).alloc _).alloc _).alloc _
  · exact (((Blk.new' (by simp) _ _).alloc _).alloc _).alloc _
  · exact ((Blk.new' (by simp) _ _).alloc _).alloc _
  · exact (Blk.new' (by simp) _ _).alloc _
  · exact Blk.new' (by simp) _ _
/-- the memory of differ in a round -/
structure DfM (w : World) (p q : Nat) (ca cf : Array Value) (W : World) : Prop where
  below : Below w.heap.size w W
  ka : Blk W (w.heap.size + 1) 3 #[.int .i64 p]
  kb : Blk W (w.heap.size + 1 + 1) 3 #[.int .i64 q]
  kr : Blk W (w.heap.size + 1 + 1 + 1) 24 #[.int .i64 0, .int .i64 0]
  ko : Blk W (w.heap.size + 1 + 1 + 1 + 1) 24 ca
  kf : Blk W (w.heap.size + 1 + 1 + 1 + 1 + 1) 4 cf
theorem DfM.tame {w : World} {p q : Nat} {ca cf : Array Value} {W W' : World} {B : Nat} (h : DfM w p q ca cf W) (ht : Tame B W W') (hB : w.heap.size ≤ B) : DfM w p q ca cf W' := ⟨ht.below hB h.below.size h.below, ht.blk h.ka, ht.blk h.kb, ht.blk h.kr, ht.blk h.ko, ht.blk h.kf⟩
theorem DfM.later {w : World} {p q : Nat} {ca cf : Array Value} {W W' : World} (h : DfM w p q ca cf W) (hb : Below W.heap.size W W') : DfM w p q ca cf W' := h.tame (B := w.heap.size) (.of_below hb) (Nat.le_refl _)
theorem DfM.seto {w : World} {p q : Nat} {ca cf : Array Value} {W : World} (h : DfM w p q ca cf W) (j : Nat) (u : Value) : DfM w p q (ca.setIfInBounds j u) cf (W.setCell ⟨w.heap.size + 1 + 1 + 1 + 1, j, none⟩ u) :=
  ⟨Below.setCell (p := ⟨w.heap.size + 1 + 1 + 1 + 1, j, none⟩) h.below (by show _ ≤ w.heap.size + 1 + 1 + 1 + 1; omega) _, h.ka.far (by show _ ≠ w.heap.size + 1 + 1 + 1 + 1; omega) _, h.kb.far (by show _ ≠ w.heap.size + 1 + 1 + 1 + 1; omega) _, h.kr.far (by show _ ≠ w.heap.size + 1 + 1 + 1 + 1; omega) _, h.ko.set_ j u, h.kf.far (by show _ ≠ w.heap.size + 1 + 1 + 1 + 1; omega) _⟩
theorem DfM.setf {w : World} {p q : Nat} {ca cf : Array Value} {W : World} (h : DfM w p q ca cf W) (j : Nat) (u : Value) : DfM w p q ca (cf.setIfInBounds j u) (W.setCell ⟨w.heap.size + 1 + 1 + 1 + 1 + 1, j, none⟩ u) :=
  ⟨Below.setCell (p := ⟨w.heap.size + 1 + 1 + 1 + 1 + 1, j, none⟩) h.below (by show _ ≤ w.heap.size + 1 + 1 + 1 + 1 + 1; omega) _, h.ka.far (by show _ ≠ w.heap.size + 1 + 1 + 1 + 1 + 1; omega) _, h.kb.far (by show _ ≠ w.heap.size + 1 + 1 + 1 + 1 + 1; omega) _, h.kr.far (by show _ ≠ w.heap.size + 1 + 1 + 1 + 1 + 1; omega) _, h.ko.far (by show _ ≠ w.heap.size + 1 + 1 + 1 + 1 + 1; omega) _, h.kf.set_ j u⟩
/-- what the cells hold behind some tables -/
def dfC (o : Option Sp) : Array Value := #[.int .i64 (o.getD ⟨0, 0⟩).lo, .int .i64 (o.getD ⟨0, 0⟩).hi]
def dfF (o : Option Sp) : Array Value := #[.bool o.isNone]
set_option maxRecDepth 100000 in
set_option maxHeartbeats 3200000 in
theorem differ_c (A : Option Addr) (n c : Nat) (B : Option Addr) (m d : Nat) (wr : Int) (ms : List Sp) (cs : List Cm5) (p q : Nat) (hp : p < 6) (hq : q < 6) (w : World) (HM : SpsAt w A n ms) (HC : CmsAt w B m cs) (hck : ckY n m ms cs wr = true) :
    Calls Try.prog 32 #[.agg #[.slice A n c, .slice B m d, .int .i64 wr], .int .i64 p, .int .i64 q] w fun e w' => e = .returned (.agg #[.int .i64 (dfR (trT n ms cs) p q (trsY n m ms cs wr)).lo, .int .i64 (dfR (trT n ms cs) p q (trsY n m ms cs wr)).hi]) ∧ Below w.heap.size w w' := by
  have HTR := Lib.hid (fun V (hV : Below w.heap.size w V) => truths5_c A n c B m d wr ms cs V (HM.later hV) (HC.later hV))
  have HIT := Lib.hid (fun yb => truths1_c yb A n c B m d wr ms cs hck)
  obtain ⟨xs, hxs⟩ : ∃ xs, trsY n m ms cs wr = xs := ⟨_, rfl⟩
  rw [hxs] at HIT ⊢
  obtain ⟨R, hR⟩ : ∃ R, dfR (trT n ms cs) p q xs = R := ⟨_, rfl⟩
  rw [hR]
  have HR := Lib.hid hR
  have HMI := Lib.hid HM
  have HCI := Lib.hid HC
  clear HM HC hck hxs hR
  refine (callsIn_wide (n := 6)).1 (callsIn_of_wp_marks Try.func32 rfl trivial ?_ rfl)
  simp only [Try.ntmps32, List.size_toArray, List.length_cons, List.length_nil, Nat.reduceAdd, Nat.reduceSub, Array.replicate_succ, Array.replicate_zero, List.push_toArray, List.append_toArray, List.nil_append, List.cons_append]
  gi_wp2
  obtain ⟨X, hX⟩ : ∃ X, ((((((w.alloc (.cells #[.slice A n c, .slice B m d, .int .i64 wr] 51)).alloc (.cells #[.int .i64 p] 3)).alloc (.cells #[.int .i64 q] 3)).alloc (.cells #[.int .i64 0, .int .i64 0] 24)).alloc (.cells #[.int .i64 0, .int .i64 0] 24)).alloc (.cells #[.bool true] 4)) = X := ⟨_, rfl⟩
  rw [hX]
  obtain ⟨BX, zX, -, ka, kb, kr, ko, kf⟩ := al6y hX
  have HD0 : Hid (DfM w p q (dfC none) (dfF none) X) := Lib.hid ⟨BX, ka, kb, kr, ko, kf⟩
  clear hX ka kb kr ko kf
  refine ⟨trivial, callsIn_wide.2 ((HTR.out X BX).mono ?_)⟩
  rintro e w2 ⟨yb, rfl, hyb, hm2, hb2⟩
  have HM2 := Lib.hid hm2.blk
  have HD2 := Lib.hid (HD0.out.later hb2)
  have z2 : w.heap.size + 6 ≤ w2.heap.size := by have := hb2.size; omega
  clear hm2 hb2
  gi_wp2
  have en := enters_of Try.func64 (by kernel_rfl) rfl
  refine wpIn_rangeT (gf := 64) (fst := #[]) (lb := #[.pointer (some ⟨yb, 0, none⟩)]) rfl en (HIT.out yb) (fun s args h => by rw [show args = _ from h]; rfl)
    (fun k W => DfM w p q (dfC (dfK (trT n ms cs) p q xs k)) (dfF (dfK (trT n ms cs) p q xs k)) W ∧ Blk W yb 51 #[.slice A n c, .slice B m d, .int .i64 wr])
    (fun c W => False) ?hI ?hIx ?hmem ?h0 ?hround ?hdone ?hstop
  case hI => exact fun k W1 W2 ⟨h1, h2⟩ ht => ⟨h1.tame ht (by omega), ht.blk h2⟩
  case hIx => exact fun c W1 W2 h ht => h
  case hmem => exact fun k W1 h => ⟨h.2, HMI.out.later h.1.below, HCI.out.later h.1.below⟩
  case h0 => exact ⟨HD2.out, HM2.out⟩
  case hstop => exact fun D c W hD h => h.elim
  case hround =>
    rintro l k s args W1 hl hz1 hx ⟨hD, hy⟩ rfl
    have hsucc := dfK_succ (f := trT n ms cs) (p := p) (q := q) hx
    have htz : Hid ((tbV (trT n ms cs s)).size = 36) := Lib.hid trT_sz
    have hTl : (trT n ms cs s).length = 36 := clT_len
    obtain ⟨T, hT⟩ : ∃ T, trT n ms cs s = T := ⟨_, rfl⟩
    rw [hT] at htz hsucc hTl
    have hsz : Hid ((Try.prog.info? 104).map (·.size) = some (tbV T).size) := Lib.hid (by rw [htz.out]; kernel_rfl)
    have hone : Hid ((tbV T).all (·.oneCell') = true) := Lib.hid (by unfold tbV; simp [Value.oneCell'])
    obtain ⟨o, ho⟩ : ∃ o, dfK (trT n ms cs) p q xs k = o := ⟨_, rfl⟩
    rw [ho] at hD hsucc
    have HSU := Lib.hid hsucc
    have HD := Lib.hid hD
    have HY := Lib.hid hy
    have HTL := Lib.hid hTl
    clear hx hD hy hsucc ho hTl
    rw [hT]
    clear hT
    gi_wp2_with (refine wpListIn_store_rowG (by rfl) (fun _ => trivial) 104 _ _ rfl W1.heap.size (tbV T) rfl rfl 104 _ (Blk.new W1 _ _) hsz.out (by rw [htz.out]; rfl) hone.out ?_)
    obtain ⟨Z, hZ⟩ : ∃ Z, (W1.alloc (.cells #[.int .i64 0, .int .i64 0, .int .i64 0, .int .i64 0, .int .i64 0, .int .i64 0, .int .i64 0, .int .i64 0, .int .i64 0, .int .i64 0, .int .i64 0, .int .i64 0, .int .i64 0, .int .i64 0, .int .i64 0, .int .i64 0, .int .i64 0, .int .i64 0, .int .i64 0, .int .i64 0, .int .i64 0, .int .i64 0, .int .i64 0, .int .i64 0, .int .i64 0, .int .i64 0, .int .i64 0, .int .i64 0, .int .i64 0, .int .i64 0, .int .i64 0, .int .i64 0, .int .i64 0, .int .i64 0, .int .i64 0, .int .i64 0] 104)).setRow W1.heap.size (tbV T) = Z := ⟨_, rfl⟩
    rw [hZ]
    have BZ : Below W1.heap.size W1 Z := by rw [← hZ]; exact below_setRow ((Below.refl _ _).alloc (Nat.le_refl _) _) (Nat.le_refl _)
    have HTZ : Hid (Blk Z W1.heap.size 104 (tbV T)) := by rw [← hZ]; exact Lib.hid (blk_setRow (Blk.new W1 _ _))
    clear hZ
    refine ⟨KeepC.of_below BZ, fun W2 ht => ?_⟩
    have HDW := Lib.hid ((HD.out.later BZ).tame ht (by omega))
    have HYW := Lib.hid (ht.blk (HY.out.below BZ HY.out.lt))
    have HTW := Lib.hid (ht.blk HTZ.out)
    have HSS : Hid (∀ W', Below W2.heap.size W2 W' → W'.cell? ⟨w.heap.size + 1, 0, none⟩ = some (.int .i64 p) ∧ W'.cell? ⟨w.heap.size + 1 + 1, 0, none⟩ = some (.int .i64 q) ∧ W'.cell? ⟨W1.heap.size, p * 6 + q, none⟩ = some (.int .i64 (iAt T (p * 6 + q))) ∧ W'.cell? ⟨W1.heap.size, q * 6 + p, none⟩ = some (.int .i64 (iAt T (q * 6 + p)))) := Lib.hid (fun W' h => ⟨((HDW.out.later h).ka).cell 0, ((HDW.out.later h).kb).cell 0, ((HTW.out.below h HTW.out.lt).cell _).trans (tbV_get (by rw [HTL.out]; omega)), ((HTW.out.below h HTW.out.lt).cell _).trans (tbV_get (by rw [HTL.out]; omega))⟩)
    have zW := ht.size
    have zZ := BZ.size
    clear ht
    gi_wp2
    try simp only [Act.put]
    obtain ⟨Y, hY⟩ : ∃ Y, W2.drew = Y := ⟨_, rfl⟩
    have BY : Below W2.heap.size W2 Y := by rw [← hY]; (repeat first | with_reducible assumption | with_reducible exact Below.refl _ _ | (with_reducible refine Below.alloc ?_ ?side _; case side => (first | omega | (with_reducible exact Below.size (by assumption)) | (simp; done) | (simp; omega))) | (with_reducible refine Below.setCell ?_ ?side _; case side => (first | omega | (with_reducible exact Below.size (by assumption)) | (simp; done) | (simp; omega))) | with_reducible refine Below.drew ?_ | with_reducible refine below_drewN ?_ _ | (with_reducible refine below_step (by assumption) ?side ?_; case side => (first | omega | (with_reducible exact Below.size (by assumption)) | (simp; done) | (simp; omega))))
    have hpI : (p : Int) < 6 := by omega
    have hqI : (q : Int) < 6 := by omega
    refine wpIn_mono (Q := fun e a' V => e = .normal ∧ ∃ (g : Nat) (u17 u18 u19 u20 u21 u22 u23 u24 u25 u26 u27 u28 u29 u30 u31 u32 u33 u34 u35 u36 u37 u38 u39 u40 u41 u42 : Value), a' = { tmps := #[.agg #[.slice A n c, .slice B m d, .int .i64 wr], .int .i64 p, .int .i64 q, .pointer (some ⟨w.heap.size, 0, none⟩), .pointer (some ⟨w.heap.size + 1, 0, none⟩), .pointer (some ⟨w.heap.size + 1 + 1, 0, none⟩), .pointer (some ⟨w.heap.size + 1 + 1 + 1, 0, none⟩), .pointer (some ⟨w.heap.size + 1 + 1 + 1 + 1, 0, none⟩), .pointer (some ⟨w.heap.size + 1 + 1 + 1 + 1 + 1, 0, none⟩), undef, .pointer (some ⟨W1.heap.size, 0, none⟩), .pointer (some ⟨g, 0, none⟩), .agg #[.int .i64 0, .int .i64 0], .agg #[.slice A n c, .slice B m d, .int .i64 wr], .func (.func 64) #[] #[.pointer (some ⟨yb, 0, none⟩)], .int .u64 s, .agg (tbV T), u17, u18, u19, u20, u21, u22, u23, u24, u25, u26, u27, u28, u29, u30, u31, u32, u33, u34, u35, u36, u37, u38, u39, u40, u41, u42], defers := [] } ∧ W2.heap.size ≤ g ∧ Below W2.heap.size W2 V ∧ Blk V g 24 #[.int .i64 (IntKind.i64.wrap (-(iAt T (p * 6 + q)))), .int .i64 (iAt T (q * 6 + p))]) ?first ?rest
    case first =>
      as_aux_lemma =>
        refine wpIn_region_K (by kernel_rfl) (fun W' => W'.cell? ⟨w.heap.size + 1, 0, none⟩ = some (.int .i64 p) ∧ W'.cell? ⟨w.heap.size + 1 + 1, 0, none⟩ = some (.int .i64 q) ∧ W'.cell? ⟨W1.heap.size, p * 6 + q, none⟩ = some (.int .i64 (iAt T (p * 6 + q))) ∧ W'.cell? ⟨W1.heap.size, q * 6 + p, none⟩ = some (.int .i64 (iAt T (q * 6 + p)))) ?_
        rw [show ({ W2 with drawn := W2.drawn + 1 } : World) = Y from hY]
        clear hY
        have hS := HSS.out Y BY
        refine wpAnyK_take (fun _ => trivial) (by rfl) (i := 0) (v := ?_) rfl (by kernel_rfl) (by kernel_rfl) (by kernel_rfl) (fun _ _ _ h => by cases h.1) hS (Or.inl ⟨by rfl, ?_⟩) ?_
        rotate_left 1
        · intro w9 hw9
          obtain ⟨s0, s1, s2, s3⟩ := hw9
          go_simp
          try with_reducible rfl
        try simp only [List.getElem_toArray, List.getElem_cons_zero, List.getElem_cons_succ, Act.put, List.setIfInBounds_toArray, List.set_cons_zero, List.set_cons_succ]
        refine wpAnyK_take (fun _ => trivial) (by rfl) (i := 1) (v := ?_) rfl (by kernel_rfl) (by kernel_rfl) (by kernel_rfl) (fun _ _ _ h => by cases h.1) hS (Or.inl ⟨by rfl, ?_⟩) ?_
        rotate_left 1
        · intro w9 hw9
          obtain ⟨s0, s1, s2, s3⟩ := hw9
          go_simp
          try with_reducible rfl
        try simp only [List.getElem_toArray, List.getElem_cons_zero, List.getElem_cons_succ, Act.put, List.setIfInBounds_toArray, List.set_cons_zero, List.set_cons_succ]
        refine wpAnyK_take (fun _ => trivial) (by rfl) (i := 2) (v := ?_) rfl (by kernel_rfl) (by kernel_rfl) (by kernel_rfl) (fun _ _ _ h => by cases h.1) hS (Or.inl ⟨by rfl, ?_⟩) ?_
        rotate_left 1
        · intro w9 hw9
          obtain ⟨s0, s1, s2, s3⟩ := hw9
          go_simp
          try with_reducible rfl
        try simp only [List.getElem_toArray, List.getElem_cons_zero, List.getElem_cons_succ, Act.put, List.setIfInBounds_toArray, List.set_cons_zero, List.set_cons_succ]
        refine wpAnyK_take (fun _ => trivial) (by rfl) (i := 3) (v := ?_) rfl (by kernel_rfl) (by kernel_rfl) (by kernel_rfl) (fun _ _ _ h => by cases h.1) hS (Or.inl ⟨by rfl, ?_⟩) ?_
        rotate_left 1
        · intro w9 hw9
          obtain ⟨s0, s1, s2, s3⟩ := hw9
          go_simp
          try with_reducible rfl
        try simp only [List.getElem_toArray, List.getElem_cons_zero, List.getElem_cons_succ, Act.put, List.setIfInBounds_toArray, List.set_cons_zero, List.set_cons_succ]
        refine wpAnyK_take (fun _ => trivial) (by rfl) (i := 4) (v := ?_) rfl (by kernel_rfl) (by kernel_rfl) (by kernel_rfl) (fun _ _ _ h => by cases h.1) hS (Or.inl ⟨by rfl, ?_⟩) ?_
        rotate_left 1
        · intro w9 hw9
          obtain ⟨s0, s1, s2, s3⟩ := hw9
          go_simp
          try with_reducible rfl
        try simp only [List.getElem_toArray, List.getElem_cons_zero, List.getElem_cons_succ, Act.put, List.setIfInBounds_toArray, List.set_cons_zero, List.set_cons_succ]
        refine wpAnyK_take (fun _ => trivial) (by rfl) (i := 5) (v := ?_) rfl (by kernel_rfl) (by kernel_rfl) (by kernel_rfl) (fun _ _ _ h => by cases h.1) hS (Or.inl ⟨by rfl, ?_⟩) ?_
        rotate_left 1
        · intro w9 hw9
          obtain ⟨s0, s1, s2, s3⟩ := hw9
          go_simp
          try with_reducible rfl
        try simp only [List.getElem_toArray, List.getElem_cons_zero, List.getElem_cons_succ, Act.put, List.setIfInBounds_toArray, List.set_cons_zero, List.set_cons_succ]
        refine wpAnyK_take (fun _ => trivial) (by rfl) (i := 6) (v := ?_) rfl (by kernel_rfl) (by kernel_rfl) (by kernel_rfl) (fun _ _ _ h => by cases h.1) hS (Or.inl ⟨by rfl, ?_⟩) ?_
        rotate_left 1
        · intro w9 hw9
          obtain ⟨s0, s1, s2, s3⟩ := hw9
          go_simp
          try with_reducible rfl
        try simp only [List.getElem_toArray, List.getElem_cons_zero, List.getElem_cons_succ, Act.put, List.setIfInBounds_toArray, List.set_cons_zero, List.set_cons_succ]
        refine wpAnyK_take (fun _ => trivial) (by rfl) (i := 7) (v := ?_) rfl (by kernel_rfl) (by kernel_rfl) (by kernel_rfl) (fun _ _ _ h => by cases h.1) hS (Or.inl ⟨by rfl, ?_⟩) ?_
        rotate_left 1
        · intro w9 hw9
          obtain ⟨s0, s1, s2, s3⟩ := hw9
          go_simp
          try with_reducible rfl
        try simp only [List.getElem_toArray, List.getElem_cons_zero, List.getElem_cons_succ, Act.put, List.setIfInBounds_toArray, List.set_cons_zero, List.set_cons_succ]
        refine wpAnyK_take (fun _ => trivial) (by rfl) (i := 8) (v := ?_) rfl (by kernel_rfl) (by kernel_rfl) (by kernel_rfl) (fun _ _ _ h => by cases h.1) hS (Or.inl ⟨by rfl, ?_⟩) ?_
        rotate_left 1
        · intro w9 hw9
          obtain ⟨s0, s1, s2, s3⟩ := hw9
          go_simp
          try with_reducible rfl
        try simp only [List.getElem_toArray, List.getElem_cons_zero, List.getElem_cons_succ, Act.put, List.setIfInBounds_toArray, List.set_cons_zero, List.set_cons_succ]
        refine wpAnyK_take (fun _ => trivial) (by rfl) (i := 9) (v := ?_) rfl (by kernel_rfl) (by kernel_rfl) (by kernel_rfl) (fun _ _ _ h => by cases h.1) hS (Or.inl ⟨by rfl, ?_⟩) ?_
        rotate_left 1
        · intro w9 hw9
          obtain ⟨s0, s1, s2, s3⟩ := hw9
          go_simp
          try with_reducible rfl
        try simp only [List.getElem_toArray, List.getElem_cons_zero, List.getElem_cons_succ, Act.put, List.setIfInBounds_toArray, List.set_cons_zero, List.set_cons_succ]
        refine wpAnyK_take (fun _ => trivial) (by rfl) (i := 10) (v := ?_) rfl (by kernel_rfl) (by kernel_rfl) (by kernel_rfl) (fun _ _ _ h => by cases h.1) hS (Or.inl ⟨by rfl, ?_⟩) ?_
        rotate_left 1
        · intro w9 hw9
          obtain ⟨s0, s1, s2, s3⟩ := hw9
          go_simp
          try with_reducible rfl
        try simp only [List.getElem_toArray, List.getElem_cons_zero, List.getElem_cons_succ, Act.put, List.setIfInBounds_toArray, List.set_cons_zero, List.set_cons_succ]
        refine wpAnyK_take (fun _ => trivial) (by rfl) (i := 11) (v := ?_) rfl (by kernel_rfl) (by kernel_rfl) (by kernel_rfl) (fun _ _ _ h => by cases h.1) hS (Or.inl ⟨by rfl, ?_⟩) ?_
        rotate_left 1
        · intro w9 hw9
          obtain ⟨s0, s1, s2, s3⟩ := hw9
          go_simp
          try with_reducible rfl
        try simp only [List.getElem_toArray, List.getElem_cons_zero, List.getElem_cons_succ, Act.put, List.setIfInBounds_toArray, List.set_cons_zero, List.set_cons_succ]
        clear hS
        refine wpAnyK_one (i := 12) (by kernel_rfl) rfl (fun K hK => ?_)
        go_simp
        obtain ⟨V, hV⟩ : ∃ V, Y.alloc (.cells #[.int .i64 0, .int .i64 0] 24) = V := ⟨_, rfl⟩
        rw [hV]
        have BV : Below W2.heap.size W2 V := by rw [← hV]; exact BY.alloc BY.size _
        have HV : Hid (Blk V Y.heap.size 24 #[.int .i64 0, .int .i64 0]) := by rw [← hV]; exact Lib.hid (Blk.new Y _ _)
        clear hV
        refine hK.out _ _ (HSS.out _ BV) (fun _ => ?_)
        clear hK K
        try simp only [List.getElem_toArray, List.getElem_cons_zero, List.getElem_cons_succ, Act.put, List.setIfInBounds_toArray, List.set_cons_zero, List.set_cons_succ]
        have kz := HV.out.cell
        have fz := HV.out.frozen
        have lz := HV.out.lt
        refine wpAnyK_one (i := 13) (by kernel_rfl) rfl (fun K hK => ?_)
        go_simp
        have BB := fun u v => Below.setCell (p := ⟨Y.heap.size, 1, none⟩) (Below.setCell (p := ⟨Y.heap.size, 0, none⟩) BV BY.size u) BY.size v
        refine hK.out _ _ (HSS.out _ (BB _ _)) (fun _ => ?_)
        clear hK K
        refine wpAnyK_done (by kernel_rfl) ?_ _
        exact ⟨rfl, _, _, _, _, _, _, _, _, _, _, _, _, _, _, _, _, _, _, _, _, _, _, _, _, _, _, _, rfl, BY.size, BB _ _, (HV.out.set_ 0 _).set_ 1 _⟩
    case rest =>
      rintro e a' V ⟨rfl, g, u17, u18, u19, u20, u21, u22, u23, u24, u25, u26, u27, u28, u29, u30, u31, u32, u33, u34, u35, u36, u37, u38, u39, u40, u41, u42, ha, hg, hV, hG⟩
      dsimp only at ha
      subst ha
      obtain ⟨x, hx⟩ : ∃ x, IntKind.i64.wrap (-(iAt T (p * 6 + q))) = x := ⟨_, rfl⟩
      obtain ⟨y, hy⟩ : ∃ y, iAt T (q * 6 + p) = y := ⟨_, rfl⟩
      have hsu := HSU.out
      unfold dfS at hsu
      rw [hx, hy] at hsu
      rw [hx, hy] at hG
      have HSU2 := Lib.hid hsu
      have HDV := Lib.hid (HDW.out.later hV)
      have HYV := Lib.hid (HYW.out.below hV HYW.out.lt)
      have HG := Lib.hid hG
      have HV := Lib.hid hV
      have zV := hV.size
      have lo4 := HDV.out.ko.lt
      have lo5 := HDV.out.kf.lt
      have lg := hG.lt
      have fo0 := HDV.out.ko.frozen 0
      have fo1 := HDV.out.ko.frozen 1
      have ff0 := HDV.out.kf.frozen 0
      have cg0 := hG.cell 0
      have cg1 := hG.cell 1
      have hne4 : (w.heap.size + 1 + 1 + 1 + 1) ≠ g := by omega
      have hne5 : (w.heap.size + 1 + 1 + 1 + 1 + 1) ≠ g := by omega
      clear hx hy hsu hG hV hY BY
      have h4 : w.heap.size + 1 + 1 + 1 + 1 < w2.heap.size := by omega
      have h5 : w.heap.size + 1 + 1 + 1 + 1 + 1 < w2.heap.size := by omega
      have hy4 : yb ≠ w.heap.size + 1 + 1 + 1 + 1 := by omega
      have hy5 : yb ≠ w.heap.size + 1 + 1 + 1 + 1 + 1 := by omega
      cases o with
      | none =>
        have co0 : V.cell? ⟨w.heap.size + 1 + 1 + 1 + 1, 0, none⟩ = some (.int .i64 0) := HDV.out.ko.cell 0
        have co1 : V.cell? ⟨w.heap.size + 1 + 1 + 1 + 1, 1, none⟩ = some (.int .i64 0) := HDV.out.ko.cell 1
        have cf0 : V.cell? ⟨w.heap.size + 1 + 1 + 1 + 1 + 1, 0, none⟩ = some (.bool true) := HDV.out.kf.cell 0
        gi_wp2
        exact ⟨(((((KeepC.of_below HV.out).set' h4 _).set' h4 _).set' h5 _).set' h4 _).set' h4 _, by rw [HSU2.out]; exact ((((HDV.out.seto 0 _).seto 1 _).setf 0 _).seto 0 _).seto 1 _, ((((HYV.out.far hy4 _).far hy4 _).far hy5 _).far hy4 _).far hy4 _⟩
      | some o =>
        have co0 : V.cell? ⟨w.heap.size + 1 + 1 + 1 + 1, 0, none⟩ = some (.int .i64 o.lo) := HDV.out.ko.cell 0
        have co1 : V.cell? ⟨w.heap.size + 1 + 1 + 1 + 1, 1, none⟩ = some (.int .i64 o.hi) := HDV.out.ko.cell 1
        have cf0 : V.cell? ⟨w.heap.size + 1 + 1 + 1 + 1 + 1, 0, none⟩ = some (.bool false) := HDV.out.kf.cell 0
        gi_wp2
        exact ⟨((KeepC.of_below HV.out).set' h4 _).set' h4 _, by rw [HSU2.out]; exact (HDV.out.seto 0 _).seto 1 _, (HYV.out.far hy4 _).far hy4 _⟩
  case hdone =>
    rintro D W hD ⟨hD2, -⟩ hK
    have HDD := Lib.hid hD2
    have hRo : dfK (trT n ms cs) p q xs xs.length = dfK (trT n ms cs) p q xs xs.length := rfl
    have co0 : W.cell? ⟨w.heap.size + 1 + 1 + 1 + 1, 0, none⟩ = some (.int .i64 R.lo) := by rw [← HR.out]; exact hD2.ko.cell 0
    have co1 : W.cell? ⟨w.heap.size + 1 + 1 + 1 + 1, 1, none⟩ = some (.int .i64 R.hi) := by rw [← HR.out]; exact hD2.ko.cell 1
    have lo4 := hD2.ko.lt
    have lr := hD2.kr.lt
    have cr0 := hD2.kr.cell 0
    have cr1 := hD2.kr.cell 1
    have fr0 := hD2.kr.frozen 0
    have fr1 := hD2.kr.frozen 1
    have h3 : w.heap.size + 1 + 1 + 1 < w2.heap.size := by omega
    clear hD2 hRo
    gi_wp2
    have BB := Below.setCell (p := ⟨w.heap.size + 1 + 1 + 1, 1, none⟩) (Below.setCell (p := ⟨w.heap.size + 1 + 1 + 1, 0, none⟩) HDD.out.below (by show _ ≤ w.heap.size + 1 + 1 + 1; omega) (.int .i64 R.lo)) (by show _ ≤ w.heap.size + 1 + 1 + 1; omega) (.int .i64 R.hi)
    refine leave_mark (v := .agg #[.int .i64 R.lo, .int .i64 R.hi]) ?_ (fun W' ht => ?_) (fun W' ht => ⟨rfl, ht.below (by omega) BB.size BB⟩)
    · exact (Below.heap_setCell _ _ _ D (by show D ≠ w.heap.size + 1 + 1 + 1; omega)).trans ((Below.heap_setCell W _ _ D (by show D ≠ w.heap.size + 1 + 1 + 1; omega)).trans hK)
    · have kk := ht.blk ((HDD.out.kr.set_ 0 (.int .i64 R.lo)).set_ 1 (.int .i64 R.hi))
      have c3 := kk.cell 0
      have c4 := kk.cell 1
      simp [results, Try.results32, go_sem, c3, c4]

end Go.Proofs.Ytcinhibmohkeiaa
