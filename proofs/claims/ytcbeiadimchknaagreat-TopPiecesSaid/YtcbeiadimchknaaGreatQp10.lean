/- A range over a function, where what is handed to a round lies in memory: the iterator's contract and the caller's law, at the fence that asks nothing; A range over a function that hands over a pointer to what it works on itself: the iterator's contract and the caller's law, at the fence that asks nothing. -/
import Derived.RangeFuncNested
import Derived.RangeFuncBound
import Derived.RangeFuncCalls
import Derived.RangeFuncLeaves
import Derived.Shelf.Abstract
import Derived.Shelf.RegionOpen
import Derived.OwnWalkIn
import Derived.TacticsInMore
import Derived.LoopNIn
import Derived.LoopIn
import Derived.Test.YtcbeiadimchknaaGreatQp01
namespace Go.Proofs.YtcbeiadimchknaaGreat
open Go.RowKit
open Go.Sort (grow)
set_option linter.unusedVariables false
set_option linter.unusedSimpArgs false

/-- What may turn while a loop over a function is under way: new blocks; from B on what is no cells. -/
structure Tame (B : Nat) (W W' : World) : Prop where
  os : W'.os = W.os
  tape : W'.tape = W.tape
  output : W'.output = W.output
  size : W.heap.size ≤ W'.heap.size
  same : ∀ k, k < W.heap.size → W'.heap[k]? = W.heap[k]? ∨ (B ≤ k ∧ ∃ o, W.heap[k]? = some o ∧ o.isCells = false)

section
variable {B : Nat} {W W' : World}
theorem Tame.of_below (h : Below W.heap.size W W') : Tame B W W' := ⟨h.os, h.tape, h.output, h.size, fun k hk => .inl (h.block k hk)⟩
theorem Tame.putObj {l : Nat} {o : Obj} (o' : Obj) (hB : B ≤ l) (hl : W.heap[l]? = some o) (ho : o.isCells = false) : Tame B W (W.putObj l o') := by
  refine ⟨rfl, rfl, rfl, by simp [World.putObj], fun k hk => ?_⟩
  by_cases hkl : k = l
  · subst hkl; exact .inr ⟨hB, o, hl, ho⟩
  · exact .inl (World.putObj_heap_other hkl)
theorem Tame.heap {k : Nat} {o : Obj} (h : Tame B W W') (hk : W.heap[k]? = some o) (ho : o.isCells = true) : W'.heap[k]? = W.heap[k]? := by
  rcases h.same k (Array.getElem?_eq_some_iff.1 hk).1 with h | ⟨_, o', h1, h2⟩
  · exact h
  · rw [hk] at h1; cases h1; rw [ho] at h2; cases h2
theorem Tame.cell {a : Addr} {v : Value} (h : Tame B W W') (hc : W.cell? a = some v) : W'.cell? a = some v := by
  obtain ⟨o, h1, h2⟩ := cells_of_cell hc
  rw [World.cell?_of_block (h.heap h1 h2)]; exact hc
theorem Tame.frozen {a : Addr} {v : Value} {b : Bool} (h : Tame B W W') (hc : W.cell? a = some v) (hf : W.frozen? a = b) : W'.frozen? a = b := by
  obtain ⟨o, h1, h2⟩ := cells_of_cell hc
  rw [World.frozen?_of_block (h.heap h1 h2)]; exact hf
theorem Tame.below {n : Nat} {w : World} (h : Tame B W W') (hn : n ≤ B) (hs : n ≤ W.heap.size) (hb : Below n w W) : Below n w W' :=
  ⟨h.os.trans hb.os, h.tape.trans hb.tape, h.output.trans hb.output, Nat.le_trans hb.size h.size, fun k hk => by
    rcases h.same k (by omega) with h1 | ⟨h1, _⟩
    · exact h1.trans (hb.block k hk)
    · omega⟩
theorem Tame.rows {size n : Nat} {A : Option Addr} {f : Nat → List Value} (h : Tame B W W') (hr : RowsAt W size A n f) : RowsAt W' size A n f := fun hn => by
  obtain ⟨b, off, e, hlt, hc⟩ := hr hn
  exact ⟨b, off, e, Nat.lt_of_lt_of_le hlt h.size, fun k hk j u hu => h.cell (hc k hk j u hu)⟩
theorem Tame.own {base : Nat} {e : TypeId} {size n : Nat} {v : Value} {xs : List Value} (h : Tame B W W') (ho : W.ownsRow base e size v n xs) : W'.ownsRow base e size v n xs := by
  obtain ⟨h1, h2⟩ := ho
  refine ⟨h1, ?_⟩
  rcases h2 with h2 | ⟨g, cap, cur, hv, hg, hh, r⟩
  · exact Or.inl h2
  · exact Or.inr ⟨g, cap, cur, hv, hg, (h.heap hh rfl).trans hh, r⟩
theorem Tame.ints {n : Nat} {A : Option Addr} {xs : List Int} (h : Tame B W W') (hx : IntsAt W A n xs) : IntsAt W' A n xs := ⟨hx.1, h.rows hx.2⟩
theorem Tame.sps {n : Nat} {A : Option Addr} {xs : List Sp} (h : Tame B W W') (hx : SpsAt W A n xs) : SpsAt W' A n xs := ⟨hx.1, h.rows hx.2⟩
end

/-- A call of yield at the fence that asks nothing. -/
def YieldW (P : Program) (l : Nat) (args : Array Value) (W : World) (R : Ending → World → Prop) : Prop :=
  ∃ fn tmps assign body, (Instr.yield l args).run P W = .ok (.round l fn tmps assign body) W ∧ ∀ m, RoundIn Fence.wide m P l fn tmps assign body W R

/-- THE ITERATOR's CONTRACT: it hands over xs, one after the other, each in memory as 'At' says; Mem: what it reads itself. -/
def IterC {α : Type} (P : Program) (g : Nat) (fst lb : Array Value) (Mem : World → Prop) (xs : List α) (At : α → Array Value → World → Prop) : Prop :=
  ∀ (l : Nat) (J : Nat → World → Prop) (Jx : World → Prop) (W : World), (∀ k W, J k W → Mem W) → (∀ k W W', J k W → Below W.heap.size W W' → J k W') →
    (∀ k x args W, xs[k]? = some x → J k W → At x args W → YieldW P l args W fun e W' => (e = .returned (.bool true) ∧ J (k + 1) W') ∨ (e = .returned (.bool false) ∧ Jx W')) →
    J 0 W →
    Calls P g (fst ++ #[.func (.yield l) #[] #[]] ++ lb) W fun e W' => (∃ v, e = .returned v) ∧ (J xs.length W' ∨ Jx W')

/-- how a round's body may be left -/
def rgPost (B : Nat) (I : Nat → World → Prop) (Ix : Code → World → Prop) (k : Nat) (W : World) : Exit → Act → World → Prop
  | .normal, _, W' => KeepsFrom B W W' ∧ I (k + 1) W'
  | .ret, _, W' => KeepsFrom B W W' ∧ Ix .ret W'
  | .exit id, _, W' => KeepsFrom B W W' ∧ Ix (.exit id) W'
  | .goto t, _, W' => KeepsFrom B W W' ∧ Ix (.goto t) W'
  | .panic _, _, _ => False
  | .outgrown, _, _ => False

theorem wpIn_range {P : Program} {n : Nat} {α : Type} {g : Operand} {ps : Array Tmp} {assign body : Code} {Q : Exit → Act → World → Prop} {a : Act} {w : World}
    {gf : Nat} {fst lb : Array Value} (hg : a.eval g = .func (.func gf) fst lb) (eg : ∀ args w, (callFunc gf args).run P w = .ok (.enter gf args) w)
    {Mem : World → Prop} {xs : List α} {At : α → Array Value → World → Prop} (hit : IterC P gf fst lb Mem xs At) (hps : ∀ x args W, At x args W → args.size = ps.size)
    (I : Nat → World → Prop) (Ix : Code → World → Prop) (hI : ∀ k W W', I k W → Tame w.heap.size W W' → I k W') (hIx : ∀ c W W', Ix c W → Tame w.heap.size W W' → Ix c W')
    (hmem : ∀ k W, I k W → Mem W) (h0 : I 0 w)
    (hround : ∀ (l k : Nat) (x : α) (args : Array Value) (W : World), w.heap.size ≤ l → xs[k]? = some x → I k W → At x args W →
      assign.wpIn (Fence.wide.inRound l) (n - 1 - 1) P (Exit.then (fun a' W' => KeepsFrom w.heap.size W W' ∧ ∀ W2, Tame w.heap.size W' W2 → body.wpIn (Fence.wide.inRound l) (n - 1 - 1) P (rgPost w.heap.size I Ix k W2) a' W2) (fun _ _ _ => False))
        { tmps := (ps.zip args).foldl (fun t (p, v) => t.setIfInBounds p v) a.tmps, defers := [] } W)
    (hdone : ∀ (D : Nat) (W : World), w.heap.size ≤ D → I xs.length W → W.heap[D]? = some (.deferred (some [])) → Q .normal { a with defers := { target := .collected D, args := #[] } :: a.defers } W)
    (hstop : ∀ (D : Nat) (c : Code) (W : World), w.heap.size ≤ D → Ix c W → W.heap[D]? = some (.deferred (some [])) → c.wpIn Fence.wide n P Q { a with defers := { target := .collected D, args := #[] } :: a.defers } W) :
    (Code.rangeFunc g ps assign body).wpIn Fence.wide n P Q a w := by
  refine wpIn_rangeFunc ?_
  intro fn hfn
  obtain ⟨rec, hrec⟩ : ∃ rec : LoopState → Option Code → Loop, rec = fun st pe => { state := st, pending := pe, fn, tmps := a.tmps, params := ps, assign, body, defers := w.heap.size } := ⟨_, rfl⟩
  obtain ⟨W1, hW1⟩ : ∃ W1, (w.alloc (.deferred (some []))).alloc (.loop (rec .ready none)) = W1 := ⟨_, rfl⟩
  have hL1 : W1.heap[w.heap.size + 1]? = some (.loop (rec .ready none)) := by
    rw [← hW1]; have := World.alloc_heap_new (w.alloc (.deferred (some []))) (.loop (rec .ready none)); rwa [World.size_alloc] at this
  have hK1 : W1.heap[w.heap.size]? = some (.deferred (some [])) := by
    rw [← hW1]; exact (Below.heap_alloc _ _ _ (by simp)).trans (World.alloc_heap_new w _)
  have hb1 : Below w.heap.size w W1 := by
    rw [← hW1]; exact ((Below.refl _ w).alloc (Nat.le_refl _) _).alloc (by simp) _
  have hI1 : I 0 W1 := hI 0 w W1 h0 (.of_below hb1)
  refine ⟨w.heap.size + 1, [{ target := .collected w.heap.size, args := #[] }], W1, { target := .fn (.func gf) lb, args := fst ++ #[.func (.yield (w.heap.size + 1)) #[] #[]] }, W1, gf,
    fst ++ #[.func (.yield (w.heap.size + 1)) #[] #[]] ++ lb, W1, ?_, ?_, ?_, ?_, fun h => by simp [Fence.wide] at h, ?_⟩
  · rw [← hW1, hrec]; exact run_enterLoop_outer _ _ _ _ _
  · simp only [resolve, hg]
    simp [go_sem]
  · intro f' hf'; trivial
  · simp [invoke, go_sem, eg]
  · refine callsIn_wide.2 ((hit (w.heap.size + 1)
      (fun k W => I k W ∧ W.heap[w.heap.size + 1]? = some (.loop (rec .ready none)) ∧ W.heap[w.heap.size]? = some (.deferred (some [])))
      (fun W => ∃ c, Ix c W ∧ W.heap[w.heap.size + 1]? = some (.loop (rec .done (some c))) ∧ W.heap[w.heap.size]? = some (.deferred (some [])))
      W1 (fun k W h => hmem k W h.1)
      (fun k A C hs hb => ⟨hI k A C hs.1 (.of_below hb), (hb.block _ (Array.getElem?_eq_some_iff.1 hs.2.1).1).trans hs.2.1, (hb.block _ (Array.getElem?_eq_some_iff.1 hs.2.2).1).trans hs.2.2⟩)
      ?_ ⟨hI1, hL1, hK1⟩).mono ?_)
    · rintro k x args W hx ⟨hi, hl, hk⟩ hat
      have hy := run_yield (P := P) (args := args) hl (by rw [hrec]; exact hps x args W hat)
      rw [hrec] at hy
      refine ⟨fn, _, assign, body, hy, fun m => ?_⟩
      have hround : RoundIn Fence.wide (n - 1 - 1) P (w.heap.size + 1) fn ((ps.zip args).foldl (fun t (p, v) => t.setIfInBounds p v) a.tmps) assign body W fun e W' =>
          (e = .returned (.bool true) ∧ (I (k + 1) W' ∧ W'.heap[w.heap.size + 1]? = some (.loop (rec .ready none)) ∧ W'.heap[w.heap.size]? = some (.deferred (some [])))) ∨
          (e = .returned (.bool false) ∧ ∃ c, Ix c W' ∧ W'.heap[w.heap.size + 1]? = some (.loop (rec .done (some c))) ∧ W'.heap[w.heap.size]? = some (.deferred (some []))) := by
        refine roundIn_of_wpIn trivial (wpIn_mono (hround (w.heap.size + 1) k x args W (by omega) hx hi hat) ?_)
        rintro e' a' Wa hpa
        have hn : e' = .normal := by cases e' <;> first | rfl | exact (hpa : False).elim
        subst hn
        obtain ⟨hkfa, hbd⟩ := hpa
        have hla := hkfa.same _ _ (by omega) hl rfl
        have hka := hkfa.same _ _ (Nat.le_refl _) hk rfl
        have hlt : w.heap.size + 1 < Wa.heap.size := (Array.getElem?_eq_some_iff.1 hla).1
        refine ⟨_, run_beginRound hla (by rw [hrec]), ?_⟩
        have hl2 : (Wa.putObj (w.heap.size + 1) (.loop { rec .ready none with state := .busy })).heap[w.heap.size + 1]? = some (.loop { rec .ready none with state := .busy }) := World.putObj_heap_same hlt
        have hk2 : (Wa.putObj (w.heap.size + 1) (.loop { rec .ready none with state := .busy })).heap[w.heap.size]? = some (.deferred (some [])) := (World.putObj_heap_other (by omega)).trans hka
        have ht : Tame w.heap.size Wa (Wa.putObj (w.heap.size + 1) (.loop { rec .ready none with state := .busy })) := .putObj _ (by omega) hla rfl
        refine wpIn_mono (hbd _ ht) ?_
        have fin : ∀ (jump : Option Code) (W3 : World), KeepsFrom w.heap.size (Wa.putObj (w.heap.size + 1) (.loop { rec .ready none with state := .busy })) W3 →
            (Instr.endRound (w.heap.size + 1) jump).run P W3 = .ok (.bool jump.isNone) (W3.putObj (w.heap.size + 1) (.loop (rec (if jump.isNone then .ready else .done) jump))) ∧
            Tame w.heap.size W3 (W3.putObj (w.heap.size + 1) (.loop (rec (if jump.isNone then .ready else .done) jump))) ∧
            (W3.putObj (w.heap.size + 1) (.loop (rec (if jump.isNone then .ready else .done) jump))).heap[w.heap.size + 1]? = some (.loop (rec (if jump.isNone then .ready else .done) jump)) ∧
            (W3.putObj (w.heap.size + 1) (.loop (rec (if jump.isNone then .ready else .done) jump))).heap[w.heap.size]? = some (.deferred (some [])) := fun jump W3 hk3 => by
          have hl3 := hk3.same _ _ (by omega) hl2 rfl
          have := run_endRound (P := P) jump hl3
          rw [hrec] at this ⊢
          exact ⟨this, .putObj _ (by omega) hl3 rfl, World.putObj_heap_same (Array.getElem?_eq_some_iff.1 hl3).1, (World.putObj_heap_other (by omega)).trans (hk3.same _ _ (Nat.le_refl _) hk2 rfl)⟩
        rintro e a3 W3 hp
        cases e with
        | normal =>
          obtain ⟨hk3, hi3⟩ := hp
          obtain ⟨hr, ht3, hl4, hk4⟩ := fin none W3 hk3
          exact ⟨_, _, hr, .inl ⟨rfl, hI _ _ _ hi3 ht3, hl4, hk4⟩⟩
        | ret =>
          obtain ⟨hk3, hi3⟩ := hp
          obtain ⟨hr, ht3, hl4, hk4⟩ := fin (some .ret) W3 hk3
          exact ⟨_, _, hr, .inr ⟨rfl, .ret, hIx _ _ _ hi3 ht3, hl4, hk4⟩⟩
        | exit id =>
          obtain ⟨hk3, hi3⟩ := hp
          obtain ⟨hr, ht3, hl4, hk4⟩ := fin (some (.exit id)) W3 hk3
          exact ⟨_, _, hr, .inr ⟨rfl, .exit id, hIx _ _ _ hi3 ht3, hl4, hk4⟩⟩
        | goto t =>
          obtain ⟨hk3, hi3⟩ := hp
          obtain ⟨hr, ht3, hl4, hk4⟩ := fin (some (.goto t)) W3 hk3
          exact ⟨_, _, hr, .inr ⟨rfl, .goto t, hIx _ _ _ hi3 ht3, hl4, hk4⟩⟩
        | panic ch => exact hp.elim
        | outgrown => exact hp.elim
      exact ⟨trivial, fun c cs _ => hround.2 c cs (room_wide _)⟩
    · rintro e W2 ⟨⟨v, rfl⟩, (⟨hi, hl, hk⟩ | ⟨c, hi, hl, hk⟩)⟩
      · exact ⟨none, _, by have := run_endLoop (P := P) hl (by rw [hrec]; simp); rw [hrec] at this; exact this, hdone _ _ (Nat.le_refl _) (hI _ _ _ hi (.putObj _ (by omega) hl rfl)) ((World.putObj_heap_other (by omega)).trans hk)⟩
      · exact ⟨some c, _, by have := run_endLoop (P := P) hl (by rw [hrec]; simp); rw [hrec] at this; exact this, hstop _ c _ (Nat.le_refl _) (hIx c _ _ hi (.putObj _ (by omega) hl rfl)) ((World.putObj_heap_other (by omega)).trans hk)⟩

/-- a function that holds such a loop is left: the mark's block is shut, the results are read -/
theorem leave_mark {F : Fence} {n : Nat} {P : Program} {fn : Func} {R : Ending → World → Prop} {tmps : Array Value} {D : Nat} {W : World} {v : Value} (hK : W.heap[D]? = some (.deferred (some [])))
    (hr : ∀ W', Tame D W W' → (results fn tmps).run P W' = .ok v W') (hR : ∀ W', Tame D W W' → R (.returned v) W') :
    bodyPostM F n P fn R .ret { tmps := tmps, defers := [{ target := .collected D, args := #[] }] } W := by
  have ht : Tame D W (W.putObj D (.deferred none)) := .putObj _ (Nat.le_refl _) hK rfl
  refine ⟨by simp, .inl ⟨_, _, rfl, run_takeDeferred hK, ?_⟩⟩
  exact ⟨_, hr _ ht, hR _ ht⟩
theorem keeps_mark {B D : Nat} {W W' : World} (h : KeepsFrom B W W') (hD : B ≤ D) (hK : W.heap[D]? = some (.deferred (some []))) : W'.heap[D]? = some (.deferred (some [])) := h.same D _ hD hK rfl

theorem keeps_alloc {B : Nat} {a w : World} (h : KeepsFrom B a w) (o : Obj) : KeepsFrom B a (w.alloc o) := h.trans ((KeepsOthers.alloc w o).from B)
theorem keeps_setCell {B : Nat} {a w : World} (h : KeepsFrom B a w) (p : Addr) (v : Value) : KeepsFrom B a (w.setCell p v) := h.trans ((KeepsOthers.setCell w p v).from B)
theorem keeps_drew {B : Nat} {a w : World} (h : KeepsFrom B a w) : KeepsFrom B a w.drew := h.trans ((KeepsOthers.drew w).from B)
theorem keeps_drewN {B : Nat} {a w : World} (h : KeepsFrom B a w) (n : Nat) : KeepsFrom B a (w.drewN n) := h.trans ⟨Nat.le_refl _, fun _ _ _ h _ => h⟩
theorem keeps_step {B B' : Nat} {a b c : World} (hb : Below B' b c) (hB : b.heap.size ≤ B') (h : KeepsFrom B a b) : KeepsFrom B a c :=
  h.trans ⟨hb.size, fun k _ _ hk _ => (hb.block k (Nat.lt_of_lt_of_le (Array.getElem?_eq_some_iff.1 hk).1 hB)).trans hk⟩
theorem keeps_grown {B : Nat} {a b c : World} {row : Option Nat} (hg : b.grownBy c row) (hr : ∀ r o, row = some r → b.heap[r]? = some o → o.isCells = true) (h : KeepsFrom B a b) : KeepsFrom B a c :=
  h.trans ((KeepsOthers.of_grownBy hg hr).from B)

/-- the marks of several such loops -/
def marks (Ds : List Nat) : List Deferred := Ds.map fun D => { target := .collected D, args := #[] }
def MarksOk (Ds : List Nat) (W : World) : Prop := Ds.Nodup ∧ ∀ D ∈ Ds, W.heap[D]? = some (.deferred (some []))
theorem MarksOk.nil (W : World) : MarksOk [] W := ⟨List.nodup_nil, by simp⟩
theorem MarksOk.below {Ds : List Nat} {B : Nat} {W W' : World} (h : MarksOk Ds W) (hB : ∀ D ∈ Ds, D < B) (hb : Below B W W') : MarksOk Ds W' := ⟨h.1, fun D hD => (hb.block D (hB D hD)).trans (h.2 D hD)⟩
theorem MarksOk.lt {Ds : List Nat} {W : World} (h : MarksOk Ds W) : ∀ D ∈ Ds, D < W.heap.size := fun D hD => (Array.getElem?_eq_some_iff.1 (h.2 D hD)).1
theorem MarksOk.tame {Ds : List Nat} {B : Nat} {W W' : World} (h : MarksOk Ds W) (hB : ∀ D ∈ Ds, D < B) (ht : Tame B W W') : MarksOk Ds W' := ⟨h.1, fun D hD => by
  rcases ht.same D (h.lt D hD) with h1 | ⟨h1, _⟩
  · exact h1.trans (h.2 D hD)
  · have := hB D hD; omega⟩
theorem MarksOk.keeps {Ds : List Nat} {B : Nat} {W W' : World} (h : MarksOk Ds W) (hB : ∀ D ∈ Ds, B ≤ D) (hk : KeepsFrom B W W') : MarksOk Ds W' := ⟨h.1, fun D hD => hk.same D _ (hB D hD) (h.2 D hD) rfl⟩
theorem MarksOk.cons {Ds : List Nat} {D : Nat} {W : World} (h : MarksOk Ds W) (hD : W.heap[D]? = some (.deferred (some []))) (hn : D ∉ Ds) : MarksOk (D :: Ds) W :=
  ⟨List.nodup_cons.2 ⟨hn, h.1⟩, fun E hE => by
    rcases List.mem_cons.1 hE with rfl | hE
    · exact hD
    · exact h.2 E hE⟩
theorem Tame.refl (B : Nat) (W : World) : Tame B W W := .of_below (Below.refl _ _)
theorem Tame.mono {B B' : Nat} {W W' : World} (h : Tame B W W') (hB : B' ≤ B) : Tame B' W W' := ⟨h.os, h.tape, h.output, h.size, fun k hk => (h.same k hk).imp_right fun ⟨a, b⟩ => ⟨by omega, b⟩⟩

theorem tame_trans {B : Nat} {X Y Z : World} (h : Tame B X Y) (k : Tame B Y Z) : Tame B X Z :=
  ⟨k.os.trans h.os, k.tape.trans h.tape, k.output.trans h.output, Nat.le_trans h.size k.size, fun j hj => by
    rcases h.same j hj with h1 | h1
    · rcases k.same j (Nat.lt_of_lt_of_le hj h.size) with k1 | ⟨k1, k2⟩
      · exact .inl (k1.trans h1)
      · rw [h1] at k2; exact .inr ⟨k1, k2⟩
    · exact .inr h1⟩

theorem leave_marks {F : Fence} {n : Nat} {P : Program} {fn : Func} {R : Ending → World → Prop} {tmps : Array Value} {B : Nat} {v : Value} : ∀ (Ds : List Nat) (W : World), MarksOk Ds W → (∀ D ∈ Ds, B ≤ D) →
    (∀ W', Tame B W W' → (results fn tmps).run P W' = .ok v W') → (∀ W', Tame B W W' → R (.returned v) W') →
    bodyPostM F n P fn R .ret { tmps := tmps, defers := marks Ds } W := by
  intro Ds
  induction Ds with
  | nil => exact fun W _ _ hr hR => ⟨_, hr W (.refl _ _), hR W (.refl _ _)⟩
  | cons D Ds ih =>
    intro W hm hB hr hR
    have hK := hm.2 D (by simp)
    have ht : Tame B W (W.putObj D (.deferred none)) := .putObj _ (hB D (by simp)) hK rfl
    refine ⟨by simp, .inl ⟨_, _, rfl, run_takeDeferred hK, ?_⟩⟩
    have hn := List.nodup_cons.1 hm.1
    refine ih _ ⟨hn.2, fun E hE => ?_⟩ (fun E hE => hB E (by simp [hE])) (fun W' h' => hr W' (tame_trans ht h')) (fun W' h' => hR W' (tame_trans ht h'))
    rw [World.putObj_heap_other (by rintro rfl; exact hn.1 hE)]
    exact hm.2 E (by simp [hE])

theorem two_cells {w : World} {a b : Addr} {x y u v : Value} (hne : a ≠ b) (ha : w.cell? a = some x) (hb : w.cell? b = some y) :
    ((w.setCell a u).setCell b v).cell? a = some u ∧ ((w.setCell a u).setCell b v).cell? b = some v := by
  refine ⟨?_, ?_⟩
  · rw [World.cell?_setCell_other _ _ _ _ (fun e => hne e.symm)]; exact World.cell?_setCell_same _ _ _ ha
  · exact World.cell?_setCell_same (u := y) _ _ _ (by rw [World.cell?_setCell_other _ _ _ _ hne]; exact hb)

end Go.Proofs.YtcbeiadimchknaaGreat

namespace Go.Proofs.YtcbeiadimchknaaGreat
open Go.RowKit
open Go.Sort (grow)
set_option linter.unusedVariables false
set_option linter.unusedSimpArgs false

/-- all blocks but one are as they were; there may be new ones -/
structure But (b : Nat) (W W' : World) : Prop where
  os : W'.os = W.os
  tape : W'.tape = W.tape
  output : W'.output = W.output
  size : W.heap.size ≤ W'.heap.size
  same : ∀ k, k < W.heap.size → k ≠ b → W'.heap[k]? = W.heap[k]?
/-- the blocks from B on are as they were -/
def KeepC (B : Nat) (W W' : World) : Prop := W.heap.size ≤ W'.heap.size ∧ ∀ k, B ≤ k → k < W.heap.size → W'.heap[k]? = W.heap[k]?
/-- what may turn for the client of such a loop: the block b, new blocks; from B on what is no cells -/
structure TameB (B b : Nat) (W W' : World) : Prop where
  os : W'.os = W.os
  tape : W'.tape = W.tape
  output : W'.output = W.output
  size : W.heap.size ≤ W'.heap.size
  same : ∀ k, k < W.heap.size → W'.heap[k]? = W.heap[k]? ∨ k = b ∨ (B ≤ k ∧ ∃ o, W.heap[k]? = some o ∧ o.isCells = false)
section
variable {B b : Nat} {W W' W'' : World}
theorem But.of_below (h : Below W.heap.size W W') : But b W W' := ⟨h.os, h.tape, h.output, h.size, fun k hk _ => h.block k hk⟩
theorem But.refl (b : Nat) (W : World) : But b W W := ⟨rfl, rfl, rfl, Nat.le_refl _, fun _ _ _ => rfl⟩
theorem But.trans (h : But b W W') (k : But b W' W'') : But b W W'' :=
  ⟨k.os.trans h.os, k.tape.trans h.tape, k.output.trans h.output, Nat.le_trans h.size k.size, fun j h1 h2 => (k.same j (Nat.lt_of_lt_of_le h1 h.size) h2).trans (h.same j h1 h2)⟩
theorem But.set (hb : b < W.heap.size) (j : Nat) (u : Value) : But b W (W.setCell ⟨b, j, none⟩ u) :=
  ⟨rfl, rfl, rfl, by simp, fun g _ h => Below.heap_setCell W _ _ g h⟩
theorem But.drew (h : But b W W') : But b W W'.drew := ⟨h.os, h.tape, h.output, h.size, h.same⟩
theorem But.cell {p : Addr} (h : But b W W') (h0 : p.block < W.heap.size) (h1 : p.block ≠ b) : W'.cell? p = W.cell? p := World.cell?_of_block (h.same _ h0 h1)
theorem But.below (h : But b W W') {n : Nat} {w : World} (hn : n ≤ b) (hs : n ≤ W.heap.size) (hb : Below n w W) : Below n w W' :=
  ⟨h.os.trans hb.os, h.tape.trans hb.tape, h.output.trans hb.output, Nat.le_trans hb.size h.size, fun k hk => (h.same k (by omega) (by omega)).trans (hb.block k hk)⟩
theorem But.ints {A : Option Addr} {n : Nat} {xs : List Int} (h : But b W W') (hx : IntsAt W A n xs) (hA : ∀ a, A = some a → a.block ≠ b) : IntsAt W' A n xs := by
  refine ⟨hx.1, fun hn => ?_⟩
  obtain ⟨g, off, rfl, hg, hc⟩ := hx.2 hn
  exact ⟨g, off, rfl, Nat.lt_of_lt_of_le hg h.size, fun k hk j u hu => (World.cell?_of_block (h.same g hg (hA _ rfl))).trans (hc k hk j u hu)⟩
theorem KeepC.refl (B : Nat) (W : World) : KeepC B W W := ⟨Nat.le_refl _, fun _ _ _ => rfl⟩
theorem KeepC.trans (h : KeepC B W W') (k : KeepC B W' W'') : KeepC B W W'' := ⟨Nat.le_trans h.1 k.1, fun j h1 h2 => (k.2 j h1 (Nat.lt_of_lt_of_le h2 h.1)).trans (h.2 j h1 h2)⟩
theorem KeepC.of_below (h : Below W.heap.size W W') : KeepC B W W' := ⟨h.size, fun k _ hk => h.block k hk⟩
theorem KeepC.blk {g : Nat} {t : TypeId} {cs : Array Value} (h : KeepC B W W') (hb : Blk W g t cs) (h1 : B ≤ g) : Blk W' g t cs := (h.2 g h1 hb.lt).trans hb
theorem KeepC.cell {p : Addr} (h : KeepC B W W') (h0 : p.block < W.heap.size) (h1 : B ≤ p.block) : W'.cell? p = W.cell? p := World.cell?_of_block (h.2 _ h1 h0)
theorem KeepC.set {p : Addr} (hp : p.block < B) (u : Value) : KeepC B W (W.setCell p u) := ⟨by simp, fun g h1 _ => Below.heap_setCell W _ _ g (by omega)⟩
theorem KeepC.alloc (o : Obj) : KeepC B W (W.alloc o) := .of_below ((Below.refl _ W).alloc (Nat.le_refl _) o)
theorem KeepC.drew (h : KeepC B W W') : KeepC B W W'.drew := h
theorem KeepC.ints {A : Option Addr} {n : Nat} {xs : List Int} (h : KeepC B W W') (hx : IntsAt W A n xs) (hA : ∀ a, A = some a → B ≤ a.block) : IntsAt W' A n xs := by
  refine ⟨hx.1, fun hn => ?_⟩
  obtain ⟨b, off, rfl, hb, hc⟩ := hx.2 hn
  exact ⟨b, off, rfl, Nat.lt_of_lt_of_le hb h.1, fun k hk j u hu => (World.cell?_of_block (h.2 b (hA _ rfl) hb)).trans (hc k hk j u hu)⟩
theorem TameB.of_but (h : But b W W') : TameB B b W W' := ⟨h.os, h.tape, h.output, h.size, fun k hk => by
  by_cases e : k = b
  · exact .inr (.inl e)
  · exact .inl (h.same k hk e)⟩
theorem TameB.of_tame (h : Tame B W W') : TameB B b W W' := ⟨h.os, h.tape, h.output, h.size, fun k hk => (h.same k hk).imp_right .inr⟩
theorem TameB.of_below (h : Below W.heap.size W W') : TameB B b W W' := .of_tame (.of_below h)
theorem TameB.heap {k : Nat} {o : Obj} (h : TameB B b W W') (hk : W.heap[k]? = some o) (ho : o.isCells = true) (hb : k ≠ b) : W'.heap[k]? = W.heap[k]? := by
  rcases h.same k (Array.getElem?_eq_some_iff.1 hk).1 with h | h | ⟨_, o', h1, h2⟩
  · exact h
  · exact absurd h hb
  · rw [hk] at h1; cases h1; rw [ho] at h2; cases h2
theorem TameB.cell {a : Addr} {v : Value} (h : TameB B b W W') (hc : W.cell? a = some v) (hb : a.block ≠ b) : W'.cell? a = some v := by
  obtain ⟨o, h1, h2⟩ := cells_of_cell hc
  rw [World.cell?_of_block (h.heap h1 h2 hb)]; exact hc
theorem TameB.frozen {a : Addr} {v : Value} {f : Bool} (h : TameB B b W W') (hc : W.cell? a = some v) (hf : W.frozen? a = f) (hb : a.block ≠ b) : W'.frozen? a = f := by
  obtain ⟨o, h1, h2⟩ := cells_of_cell hc
  rw [World.frozen?_of_block (h.heap h1 h2 hb)]; exact hf
theorem TameB.blk {g : Nat} {t : TypeId} {cs : Array Value} (h : TameB B b W W') (hk : Blk W g t cs) (hb : g ≠ b) : Blk W' g t cs := (h.heap hk rfl hb).trans hk
theorem TameB.below {n : Nat} {w : World} (h : TameB B b W W') (hn : n ≤ B) (hnb : n ≤ b) (hs : n ≤ W.heap.size) (hb : Below n w W) : Below n w W' :=
  ⟨h.os.trans hb.os, h.tape.trans hb.tape, h.output.trans hb.output, Nat.le_trans hb.size h.size, fun k hk => by
    rcases h.same k (by omega) with h1 | h1 | ⟨h1, _⟩
    · exact h1.trans (hb.block k hk)
    · omega
    · omega⟩
theorem TameB.own {base : Nat} {e : TypeId} {size n : Nat} {v : Value} {xs : List Value} (h : TameB B b W W') (ho : W.ownsRow base e size v n xs) (hv : v.ownBlock ≠ some b) : W'.ownsRow base e size v n xs := by
  obtain ⟨h1, h2⟩ := ho
  refine ⟨h1, ?_⟩
  rcases h2 with h2 | ⟨g, cap, cur, rfl, hg, hh, r⟩
  · exact Or.inl h2
  · exact Or.inr ⟨g, cap, cur, rfl, hg, (h.heap hh rfl (fun e => hv (by rw [e]; rfl))).trans hh, r⟩
theorem TameB.marks {Ds : List Nat} {C : Nat} (h : TameB B b W W') (hm : MarksOk Ds W) (hC : ∀ D ∈ Ds, D < C) (hB : C ≤ B) (hb : C ≤ b) : MarksOk Ds W' := ⟨hm.1, fun D hD => by
  have hl := hC D hD
  rcases h.same D (hm.lt D hD) with h1 | h1 | ⟨h1, _⟩
  · exact h1.trans (hm.2 D hD)
  · omega
  · omega⟩
theorem TameB.trans (h : TameB B b W W') (k : TameB B b W' W'') : TameB B b W W'' :=
  ⟨k.os.trans h.os, k.tape.trans h.tape, k.output.trans h.output, Nat.le_trans h.size k.size, fun j hj => by
    rcases h.same j hj with h1 | h1 | h1
    · rcases k.same j (Nat.lt_of_lt_of_le hj h.size) with k1 | k1 | ⟨k1, k2⟩
      · exact .inl (k1.trans h1)
      · exact .inr (.inl k1)
      · rw [h1] at k2; exact .inr (.inr ⟨k1, k2⟩)
    · exact .inr (.inl h1)
    · exact .inr (.inr h1)⟩
end
/-- THE ITERATOR's CONTRACT: it hands over a pointer to a block b of its own, in which xs lies, one after the other, as 'At' says. -/
def IterS {α : Type} (P : Program) (g : Nat) (fst lb : Array Value) (Mem : World → Prop) (xs : List α) (At : Nat → Nat → α → World → Prop) : Prop :=
  ∀ (l : Nat) (J : Nat → Nat → World → Prop) (Jx : World → Prop) (W : World), (∀ b k W1, W.heap.size ≤ b → J b k W1 → Mem W1) →
    (∀ b k W1 W2, W.heap.size ≤ b → J b k W1 → But b W1 W2 → J b k W2) →
    (∀ b k x W1, W.heap.size ≤ b → xs[k]? = some x → J b k W1 → At W.heap.size b x W1 → YieldW P l #[.pointer (some ⟨b, 0, none⟩)] W1 fun e W' => (e = .returned (.bool true) ∧ J b (k + 1) W' ∧ KeepC W.heap.size W1 W') ∨ (e = .returned (.bool false) ∧ Jx W')) →
    (∀ b W1, W.heap.size ≤ b → Below W.heap.size W W1 → J b 0 W1) → Mem W →
    Calls P g (fst ++ #[.func (.yield l) #[] #[]] ++ lb) W fun e W' => (∃ v, e = .returned v) ∧ ((∃ b, W.heap.size ≤ b ∧ J b xs.length W') ∨ Jx W')
/-- how a round's body may be left -/
def rgPostS (B : Nat) (I : Nat → World → Prop) (Ix : Code → World → Prop) (k : Nat) (W : World) : Exit → Act → World → Prop
  | .normal, _, W' => KeepsFrom B W W' ∧ KeepC (B + 2) W W' ∧ I (k + 1) W'
  | .ret, _, W' => KeepsFrom B W W' ∧ Ix .ret W'
  | .exit id, _, W' => KeepsFrom B W W' ∧ Ix (.exit id) W'
  | .goto t, _, W' => KeepsFrom B W W' ∧ Ix (.goto t) W'
  | .panic _, _, _ => False
  | .outgrown, _, _ => False
theorem KeepC.putObj {B l : Nat} {W : World} (o : Obj) (hl : l < B) : KeepC B W (W.putObj l o) := ⟨by simp [World.putObj], fun k h1 _ => World.putObj_heap_other (by omega)⟩

theorem wpIn_rangeS {P : Program} {n : Nat} {α : Type} {g : Operand} {ps : Array Tmp} {assign body : Code} {Q : Exit → Act → World → Prop} {a : Act} {w : World}
    {gf : Nat} {fst lb : Array Value} (hg : a.eval g = .func (.func gf) fst lb) (eg : ∀ args w, (callFunc gf args).run P w = .ok (.enter gf args) w)
    {Mem : World → Prop} {xs : List α} {At : Nat → Nat → α → World → Prop} (hit : IterS P gf fst lb Mem xs At) (hps : ps.size = 1)
    (I : Nat → Nat → World → Prop) (Ix : Code → World → Prop) (hI : ∀ b k W W', w.heap.size + 2 ≤ b → I b k W → TameB w.heap.size b W W' → I b k W') (hIx : ∀ c W W', Ix c W → Tame w.heap.size W W' → Ix c W')
    (hmem : ∀ b k W, w.heap.size + 2 ≤ b → I b k W → Mem W) (h0 : ∀ b W, w.heap.size + 2 ≤ b → Below w.heap.size w W → I b 0 W)
    (hround : ∀ (l b k : Nat) (x : α) (W : World), w.heap.size ≤ l → w.heap.size + 2 ≤ b → xs[k]? = some x → I b k W → At (w.heap.size + 2) b x W →
      assign.wpIn (Fence.wide.inRound l) (n - 1 - 1) P (Exit.then (fun a' W' => KeepsFrom w.heap.size W W' ∧ KeepC (w.heap.size + 2) W W' ∧ ∀ W2, Tame w.heap.size W' W2 → body.wpIn (Fence.wide.inRound l) (n - 1 - 1) P (rgPostS w.heap.size (I b) Ix k W2) a' W2) (fun _ _ _ => False))
        { tmps := (ps.zip #[.pointer (some ⟨b, 0, none⟩)]).foldl (fun t (p, v) => t.setIfInBounds p v) a.tmps, defers := [] } W)
    (hdone : ∀ (D b : Nat) (W : World), w.heap.size ≤ D → w.heap.size + 2 ≤ b → I b xs.length W → W.heap[D]? = some (.deferred (some [])) → Q .normal { a with defers := { target := .collected D, args := #[] } :: a.defers } W)
    (hstop : ∀ (D : Nat) (c : Code) (W : World), w.heap.size ≤ D → Ix c W → W.heap[D]? = some (.deferred (some [])) → c.wpIn Fence.wide n P Q { a with defers := { target := .collected D, args := #[] } :: a.defers } W) :
    (Code.rangeFunc g ps assign body).wpIn Fence.wide n P Q a w := by
  refine wpIn_rangeFunc ?_
  intro fn hfn
  obtain ⟨rec, hrec⟩ : ∃ rec : LoopState → Option Code → Loop, rec = fun st pe => { state := st, pending := pe, fn, tmps := a.tmps, params := ps, assign, body, defers := w.heap.size } := ⟨_, rfl⟩
  obtain ⟨W1, hW1⟩ : ∃ W1, (w.alloc (.deferred (some []))).alloc (.loop (rec .ready none)) = W1 := ⟨_, rfl⟩
  have hL1 : W1.heap[w.heap.size + 1]? = some (.loop (rec .ready none)) := by
    rw [← hW1]; have := World.alloc_heap_new (w.alloc (.deferred (some []))) (.loop (rec .ready none)); rwa [World.size_alloc] at this
  have hK1 : W1.heap[w.heap.size]? = some (.deferred (some [])) := by
    rw [← hW1]; exact (Below.heap_alloc _ _ _ (by simp)).trans (World.alloc_heap_new w _)
  have hb1 : Below w.heap.size w W1 := by
    rw [← hW1]; exact ((Below.refl _ w).alloc (Nat.le_refl _) _).alloc (by simp) _
  have hs1 : W1.heap.size = w.heap.size + 2 := by rw [← hW1]; simp
  refine ⟨w.heap.size + 1, [{ target := .collected w.heap.size, args := #[] }], W1, { target := .fn (.func gf) lb, args := fst ++ #[.func (.yield (w.heap.size + 1)) #[] #[]] }, W1, gf,
    fst ++ #[.func (.yield (w.heap.size + 1)) #[] #[]] ++ lb, W1, ?_, ?_, ?_, ?_, fun h => by simp [Fence.wide] at h, ?_⟩
  · rw [← hW1, hrec]; exact run_enterLoop_outer _ _ _ _ _
  · simp only [resolve, hg]
    simp [go_sem]
  · intro f' hf'; trivial
  · simp [invoke, go_sem, eg]
  · have h0' : ∀ b W, w.heap.size + 2 ≤ b → Below W1.heap.size W1 W → I b 0 W := fun b W hb h => h0 b W hb (hb1.trans (h.mono (by omega)))
    refine callsIn_wide.2 ((hit (w.heap.size + 1)
      (fun b k W => I b k W ∧ W.heap[w.heap.size + 1]? = some (.loop (rec .ready none)) ∧ W.heap[w.heap.size]? = some (.deferred (some [])))
      (fun W => ∃ c, Ix c W ∧ W.heap[w.heap.size + 1]? = some (.loop (rec .done (some c))) ∧ W.heap[w.heap.size]? = some (.deferred (some [])))
      W1 (fun b k W hb h => hmem b k W (by omega) h.1)
      (fun b k A C hb hs hbt => ⟨hI b k A C (by omega) hs.1 (.of_but hbt), (hbt.same _ (Array.getElem?_eq_some_iff.1 hs.2.1).1 (by omega)).trans hs.2.1, (hbt.same _ (Array.getElem?_eq_some_iff.1 hs.2.2).1 (by omega)).trans hs.2.2⟩)
      ?_ (fun b W hb h => ⟨h0' b W (by omega) h, (h.block _ (Array.getElem?_eq_some_iff.1 hL1).1).trans hL1, (h.block _ (Array.getElem?_eq_some_iff.1 hK1).1).trans hK1⟩)
      (hmem (w.heap.size + 2) 0 W1 (Nat.le_refl _) (h0' _ _ (Nat.le_refl _) (Below.refl _ _)))).mono ?_)
    · rintro b k x W hbW hx ⟨hi, hl, hk⟩ hat
      rw [hs1] at hbW hat ⊢
      have hy := run_yield (P := P) (args := #[.pointer (some ⟨b, 0, none⟩)]) hl (by rw [hrec]; exact hps.symm)
      rw [hrec] at hy
      refine ⟨fn, _, assign, body, hy, fun m => ?_⟩
      have hround : RoundIn Fence.wide (n - 1 - 1) P (w.heap.size + 1) fn ((ps.zip #[.pointer (some ⟨b, 0, none⟩)]).foldl (fun t (p, v) => t.setIfInBounds p v) a.tmps) assign body W fun e W' =>
          (e = .returned (.bool true) ∧ (I b (k + 1) W' ∧ W'.heap[w.heap.size + 1]? = some (.loop (rec .ready none)) ∧ W'.heap[w.heap.size]? = some (.deferred (some []))) ∧ KeepC (w.heap.size + 2) W W') ∨
          (e = .returned (.bool false) ∧ ∃ c, Ix c W' ∧ W'.heap[w.heap.size + 1]? = some (.loop (rec .done (some c))) ∧ W'.heap[w.heap.size]? = some (.deferred (some []))) := by
        refine roundIn_of_wpIn trivial (wpIn_mono (hround (w.heap.size + 1) b k x W (by omega) hbW hx hi hat) ?_)
        rintro e' a' Wa hpa
        have hn : e' = .normal := by cases e' <;> first | rfl | exact (hpa : False).elim
        subst hn
        obtain ⟨hkfa, hkca, hbd⟩ := hpa
        have hla := hkfa.same _ _ (by omega) hl rfl
        have hka := hkfa.same _ _ (Nat.le_refl _) hk rfl
        have hlt : w.heap.size + 1 < Wa.heap.size := (Array.getElem?_eq_some_iff.1 hla).1
        refine ⟨_, run_beginRound hla (by rw [hrec]), ?_⟩
        have hl2 : (Wa.putObj (w.heap.size + 1) (.loop { rec .ready none with state := .busy })).heap[w.heap.size + 1]? = some (.loop { rec .ready none with state := .busy }) := World.putObj_heap_same hlt
        have hk2 : (Wa.putObj (w.heap.size + 1) (.loop { rec .ready none with state := .busy })).heap[w.heap.size]? = some (.deferred (some [])) := (World.putObj_heap_other (by omega)).trans hka
        have ht : Tame w.heap.size Wa (Wa.putObj (w.heap.size + 1) (.loop { rec .ready none with state := .busy })) := .putObj _ (by omega) hla rfl
        have hkc2 : KeepC (w.heap.size + 2) W (Wa.putObj (w.heap.size + 1) (.loop { rec .ready none with state := .busy })) := hkca.trans (.putObj _ (by omega))
        refine wpIn_mono (hbd _ ht) ?_
        have fin : ∀ (jump : Option Code) (W3 : World), KeepsFrom w.heap.size (Wa.putObj (w.heap.size + 1) (.loop { rec .ready none with state := .busy })) W3 →
            (Instr.endRound (w.heap.size + 1) jump).run P W3 = .ok (.bool jump.isNone) (W3.putObj (w.heap.size + 1) (.loop (rec (if jump.isNone then .ready else .done) jump))) ∧
            Tame w.heap.size W3 (W3.putObj (w.heap.size + 1) (.loop (rec (if jump.isNone then .ready else .done) jump))) ∧
            (W3.putObj (w.heap.size + 1) (.loop (rec (if jump.isNone then .ready else .done) jump))).heap[w.heap.size + 1]? = some (.loop (rec (if jump.isNone then .ready else .done) jump)) ∧
            (W3.putObj (w.heap.size + 1) (.loop (rec (if jump.isNone then .ready else .done) jump))).heap[w.heap.size]? = some (.deferred (some [])) := fun jump W3 hk3 => by
          have hl3 := hk3.same _ _ (by omega) hl2 rfl
          have := run_endRound (P := P) jump hl3
          rw [hrec] at this ⊢
          exact ⟨this, .putObj _ (by omega) hl3 rfl, World.putObj_heap_same (Array.getElem?_eq_some_iff.1 hl3).1, (World.putObj_heap_other (by omega)).trans (hk3.same _ _ (Nat.le_refl _) hk2 rfl)⟩
        rintro e a3 W3 hp
        cases e with
        | normal =>
          obtain ⟨hk3, hc3, hi3⟩ := hp
          obtain ⟨hr, ht3, hl4, hk4⟩ := fin none W3 hk3
          exact ⟨_, _, hr, .inl ⟨rfl, ⟨hI _ _ _ _ hbW hi3 (.of_tame ht3), hl4, hk4⟩, (hkc2.trans hc3).trans (.putObj _ (by omega))⟩⟩
        | ret =>
          obtain ⟨hk3, hi3⟩ := hp
          obtain ⟨hr, ht3, hl4, hk4⟩ := fin (some .ret) W3 hk3
          exact ⟨_, _, hr, .inr ⟨rfl, .ret, hIx _ _ _ hi3 ht3, hl4, hk4⟩⟩
        | exit id =>
          obtain ⟨hk3, hi3⟩ := hp
          obtain ⟨hr, ht3, hl4, hk4⟩ := fin (some (.exit id)) W3 hk3
          exact ⟨_, _, hr, .inr ⟨rfl, .exit id, hIx _ _ _ hi3 ht3, hl4, hk4⟩⟩
        | goto t =>
          obtain ⟨hk3, hi3⟩ := hp
          obtain ⟨hr, ht3, hl4, hk4⟩ := fin (some (.goto t)) W3 hk3
          exact ⟨_, _, hr, .inr ⟨rfl, .goto t, hIx _ _ _ hi3 ht3, hl4, hk4⟩⟩
        | panic ch => exact hp.elim
        | outgrown => exact hp.elim
      exact ⟨trivial, fun c cs _ => hround.2 c cs (room_wide _)⟩
    · rintro e W2 ⟨⟨v, rfl⟩, (⟨b, hbb, hi, hl, hk⟩ | ⟨c, hi, hl, hk⟩)⟩
      · exact ⟨none, _, by have := run_endLoop (P := P) hl (by rw [hrec]; simp); rw [hrec] at this; exact this, hdone _ b _ (Nat.le_refl _) (by omega) (hI _ _ _ _ (by omega) hi (.of_tame (.putObj _ (by omega) hl rfl))) ((World.putObj_heap_other (by omega)).trans hk)⟩
      · exact ⟨some c, _, by have := run_endLoop (P := P) hl (by rw [hrec]; simp); rw [hrec] at this; exact this, hstop _ c _ (Nat.le_refl _) (hIx c _ _ hi (.putObj _ (by omega) hl rfl)) ((World.putObj_heap_other (by omega)).trans hk)⟩

end Go.Proofs.YtcbeiadimchknaaGreat
