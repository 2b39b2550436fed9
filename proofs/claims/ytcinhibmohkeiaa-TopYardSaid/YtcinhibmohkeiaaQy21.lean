/- A range over a function that may itself stand in such a range: what is handed to a round are values; the iterator's contract and the caller's law, at the fence that asks nothing. -/
import Derived.Test.YtcinhibmohkeiaaQy20
namespace Go.Proofs.Ytcinhibmohkeiaa
open Go.RowKit
open Go.Sort (grow)
set_option linter.unusedVariables false
set_option linter.unusedSimpArgs false

/-- THE ITERATOR's CONTRACT: it hands over xs, one after the other, as values that 'At' names; what a round does leaves all blocks alone that the iterator made. -/
def IterT {α : Type} (P : Program) (g : Nat) (fst lb : Array Value) (Mem : World → Prop) (xs : List α) (At : α → Array Value → Prop) : Prop :=
  ∀ (l : Nat) (J : Nat → World → Prop) (Jx : World → Prop) (W : World), (∀ k W1, J k W1 → Mem W1) →
    (∀ k W1 W2, J k W1 → Tame W.heap.size W1 W2 → J k W2) →
    (∀ W1 W2, Jx W1 → Tame W.heap.size W1 W2 → Jx W2) →
    (∀ k x args W1, W.heap.size ≤ W1.heap.size → xs[k]? = some x → J k W1 → At x args → YieldW P l args W1 fun e W2 => KeepC W.heap.size W1 W2 ∧ ((e = .returned (.bool true) ∧ J (k + 1) W2) ∨ (e = .returned (.bool false) ∧ Jx W2))) →
    J 0 W →
    Calls P g (fst ++ #[.func (.yield l) #[] #[]] ++ lb) W fun e W2 => (∃ v, e = .returned v) ∧ (J xs.length W2 ∨ Jx W2)
/-- how a round's body may be left -/
def rgPostT (B : Nat) (I : Nat → World → Prop) (Ix : Code → World → Prop) (k : Nat) (W : World) : Exit → Act → World → Prop
  | .normal, _, W' => KeepC B W W' ∧ I (k + 1) W'
  | .ret, _, W' => KeepC B W W' ∧ Ix .ret W'
  | .exit id, _, W' => KeepC B W W' ∧ Ix (.exit id) W'
  | .goto t, _, W' => KeepC B W W' ∧ Ix (.goto t) W'
  | .panic _, _, _ => False
  | .outgrown, _, _ => False
theorem KeepC.mono {B C : Nat} {W W' : World} (h : KeepC B W W') (hBC : B ≤ C) : KeepC C W W' := ⟨h.1, fun k h1 h2 => h.2 k (by omega) h2⟩
theorem Tame.blk {B g : Nat} {W W' : World} {t : TypeId} {cs : Array Value} (h : Tame B W W') (hb : Blk W g t cs) : Blk W' g t cs := (h.heap hb rfl).trans hb
theorem Tame.keepC {B C : Nat} {W W' : World} (hb : Below C W W') (h : W.heap.size ≤ C) : KeepC B W W' := .of_below ⟨hb.os, hb.tape, hb.output, hb.size, fun k hk => hb.block k (by omega)⟩
theorem wpIn_rangeT {P : Program} {n : Nat} {α : Type} {g : Operand} {ps : Array Tmp} {assign body : Code} {Q : Exit → Act → World → Prop} {a : Act} {w : World}
    {gf : Nat} {fst lb : Array Value} (hg : a.eval g = .func (.func gf) fst lb) (eg : ∀ args w, (callFunc gf args).run P w = .ok (.enter gf args) w)
    {Mem : World → Prop} {xs : List α} {At : α → Array Value → Prop} (hit : IterT P gf fst lb Mem xs At) (hps : ∀ x args, At x args → args.size = ps.size)
    (I : Nat → World → Prop) (Ix : Code → World → Prop) (hI : ∀ k W W', I k W → Tame w.heap.size W W' → I k W') (hIx : ∀ c W W', Ix c W → Tame w.heap.size W W' → Ix c W')
    (hmem : ∀ k W, I k W → Mem W) (h0 : I 0 w)
    (hround : ∀ (l k : Nat) (x : α) (args : Array Value) (W : World), w.heap.size ≤ l → w.heap.size + 2 ≤ W.heap.size → xs[k]? = some x → I k W → At x args →
      assign.wpIn (Fence.wide.inRound l) (n - 1 - 1) P (Exit.then (fun a' W' => KeepC w.heap.size W W' ∧ ∀ W2, Tame w.heap.size W' W2 → body.wpIn (Fence.wide.inRound l) (n - 1 - 1) P (rgPostT w.heap.size I Ix k W2) a' W2) (fun _ _ _ => False))
        { tmps := (ps.zip args).foldl (fun t (p, v) => t.setIfInBounds p v) a.tmps, defers := [] } W)
    (hdone : ∀ (D : Nat) (W : World), w.heap.size ≤ D → I xs.length W → W.heap[D]? = some (.deferred (some [])) → Q .normal { a with defers := { target := .collected D, args := #[] } :: a.defers } W)
    (hstop : ∀ (D : Nat) (c : Code) (W : World), w.heap.size ≤ D → Ix c W → W.heap[D]? = some (.deferred (some [])) → c.wpIn Fence.wide n P Q { a with defers := { target := .collected D, args := #[] } :: a.defers } W) :
    (Code.rangeFunc g ps assign body).wpIn Fence.wide n P Q a w := by
  refine wpIn_rangeFunc ?_
  intro fn hfn
  obtain ⟨rec, hrec⟩ : ∃ rec : LoopState → Option Code → Loop, rec = fun st pe => { state := st, pending := pe, fn, tmps := a.tmps, params := ps, assign, body, defers := w.heap.size } := ⟨_, rfl⟩
  obtain ⟨W1, hW1⟩ : ∃ W1, (w.alloc (.deferred (some []))).alloc (.loop (rec .ready none)) = W1 := ⟨_, rfl⟩
  have hL1 : W1.heap[w.heap.size + 1]? = some (.loop (rec .ready none)) := by
    rw [← hW1]; have := World.alloc_heap_new (w.alloc (.deferred (some []))) (.loop (rec .ready none)); rwa [World.size_alloc] at this
  have hK1 : W1.heap[w.heap.size]? = some (.deferred (some [])) := by
    rw [← hW1]; exact (Below.heap_alloc _ _ _ (by simp)).trans (World.alloc_heap_new w _)
  have hb1 : Below w.heap.size w W1 := by
    rw [← hW1]; exact ((Below.refl _ w).alloc (Nat.le_refl _) _).alloc (by simp) _
  have hs1 : W1.heap.size = w.heap.size + 2 := by rw [← hW1]; simp
  have hI1 : I 0 W1 := hI 0 w W1 h0 (.of_below hb1)
  refine ⟨w.heap.size + 1, [{ target := .collected w.heap.size, args := #[] }], W1, { target := .fn (.func gf) lb, args := fst ++ #[.func (.yield (w.heap.size + 1)) #[] #[]] }, W1, gf,
    fst ++ #[.func (.yield (w.heap.size + 1)) #[] #[]] ++ lb, W1, ?_, ?_, ?_, ?_, fun h => by simp [Fence.wide] at h, ?_⟩
  · rw [← hW1, hrec]; exact run_enterLoop_outer _ _ _ _ _
  · simp only [resolve, hg]
    simp [go_sem]
  · intro f' hf'; trivial
  · simp [invoke, go_sem, eg]
  · have old : ∀ {k : Nat} {o : Obj} {A C : World}, A.heap[k]? = some o → k < w.heap.size + 2 → Tame W1.heap.size A C → C.heap[k]? = some o := fun {k o A C} h hk ht => by
      rcases ht.same k (Array.getElem?_eq_some_iff.1 h).1 with e | ⟨e, _⟩
      · exact e.trans h
      · omega
    refine callsIn_wide.2 ((hit (w.heap.size + 1)
      (fun k W => I k W ∧ W.heap[w.heap.size + 1]? = some (.loop (rec .ready none)) ∧ W.heap[w.heap.size]? = some (.deferred (some [])))
      (fun W => ∃ c, Ix c W ∧ W.heap[w.heap.size + 1]? = some (.loop (rec .done (some c))) ∧ W.heap[w.heap.size]? = some (.deferred (some [])))
      W1 (fun k W h => hmem k W h.1)
      (fun k A C hs ht => ⟨hI k A C hs.1 (ht.mono (by omega)), old hs.2.1 (by omega) ht, old hs.2.2 (by omega) ht⟩)
      (fun A C ⟨c, hs, h1, h2⟩ ht => ⟨c, hIx c A C hs (ht.mono (by omega)), old h1 (by omega) ht, old h2 (by omega) ht⟩)
      ?_ ⟨hI1, hL1, hK1⟩).mono ?_)
    · rintro k x args W hWs hx ⟨hi, hl, hk⟩ hat
      rw [hs1] at hWs ⊢
      have hy := run_yield (P := P) (args := args) hl (by rw [hrec]; exact hps x args hat)
      rw [hrec] at hy
      refine ⟨fn, _, assign, body, hy, fun m => ?_⟩
      have hround : RoundIn Fence.wide (n - 1 - 1) P (w.heap.size + 1) fn ((ps.zip args).foldl (fun t (p, v) => t.setIfInBounds p v) a.tmps) assign body W fun e W' =>
          KeepC (w.heap.size + 2) W W' ∧ ((e = .returned (.bool true) ∧ (I (k + 1) W' ∧ W'.heap[w.heap.size + 1]? = some (.loop (rec .ready none)) ∧ W'.heap[w.heap.size]? = some (.deferred (some [])))) ∨
          (e = .returned (.bool false) ∧ ∃ c, Ix c W' ∧ W'.heap[w.heap.size + 1]? = some (.loop (rec .done (some c))) ∧ W'.heap[w.heap.size]? = some (.deferred (some [])))) := by
        refine roundIn_of_wpIn trivial (wpIn_mono (hround (w.heap.size + 1) k x args W (by omega) hWs hx hi hat) ?_)
        rintro e' a' Wa hpa
        have hn : e' = .normal := by cases e' <;> first | rfl | exact (hpa : False).elim
        subst hn
        obtain ⟨hkca, hbd⟩ := hpa
        have hla := (hkca.2 _ (Nat.le_succ _) (by omega)).trans hl
        have hka := (hkca.2 _ (Nat.le_refl _) (by omega)).trans hk
        have hlt : w.heap.size + 1 < Wa.heap.size := (Array.getElem?_eq_some_iff.1 hla).1
        refine ⟨_, run_beginRound hla (by rw [hrec]), ?_⟩
        have hl2 : (Wa.putObj (w.heap.size + 1) (.loop { rec .ready none with state := .busy })).heap[w.heap.size + 1]? = some (.loop { rec .ready none with state := .busy }) := World.putObj_heap_same hlt
        have hk2 : (Wa.putObj (w.heap.size + 1) (.loop { rec .ready none with state := .busy })).heap[w.heap.size]? = some (.deferred (some [])) := (World.putObj_heap_other (by omega)).trans hka
        have ht : Tame w.heap.size Wa (Wa.putObj (w.heap.size + 1) (.loop { rec .ready none with state := .busy })) := .putObj _ (by omega) hla rfl
        have hkc2 : KeepC (w.heap.size + 2) W (Wa.putObj (w.heap.size + 1) (.loop { rec .ready none with state := .busy })) := (hkca.mono (by omega)).trans (.putObj _ (by omega))
        refine wpIn_mono (hbd _ ht) ?_
        have fin : ∀ (jump : Option Code) (W3 : World), KeepC w.heap.size (Wa.putObj (w.heap.size + 1) (.loop { rec .ready none with state := .busy })) W3 →
            (Instr.endRound (w.heap.size + 1) jump).run P W3 = .ok (.bool jump.isNone) (W3.putObj (w.heap.size + 1) (.loop (rec (if jump.isNone then .ready else .done) jump))) ∧
            Tame w.heap.size W3 (W3.putObj (w.heap.size + 1) (.loop (rec (if jump.isNone then .ready else .done) jump))) ∧
            KeepC (w.heap.size + 2) W (W3.putObj (w.heap.size + 1) (.loop (rec (if jump.isNone then .ready else .done) jump))) ∧
            (W3.putObj (w.heap.size + 1) (.loop (rec (if jump.isNone then .ready else .done) jump))).heap[w.heap.size + 1]? = some (.loop (rec (if jump.isNone then .ready else .done) jump)) ∧
            (W3.putObj (w.heap.size + 1) (.loop (rec (if jump.isNone then .ready else .done) jump))).heap[w.heap.size]? = some (.deferred (some [])) := fun jump W3 hk3 => by
          have hl3 := (hk3.2 _ (Nat.le_succ _) (Array.getElem?_eq_some_iff.1 hl2).1).trans hl2
          have := run_endRound (P := P) jump hl3
          rw [hrec] at this ⊢
          exact ⟨this, .putObj _ (by omega) hl3 rfl, (hkc2.trans (hk3.mono (by omega))).trans (.putObj _ (by omega)), World.putObj_heap_same (Array.getElem?_eq_some_iff.1 hl3).1, (World.putObj_heap_other (by omega)).trans ((hk3.2 _ (Nat.le_refl _) (Array.getElem?_eq_some_iff.1 hk2).1).trans hk2)⟩
        rintro e a3 W3 hp
        cases e with
        | normal =>
          obtain ⟨hk3, hi3⟩ := hp
          obtain ⟨hr, ht3, hc3, hl4, hk4⟩ := fin none W3 hk3
          exact ⟨_, _, hr, hc3, .inl ⟨rfl, hI _ _ _ hi3 ht3, hl4, hk4⟩⟩
        | ret =>
          obtain ⟨hk3, hi3⟩ := hp
          obtain ⟨hr, ht3, hc3, hl4, hk4⟩ := fin (some .ret) W3 hk3
          exact ⟨_, _, hr, hc3, .inr ⟨rfl, .ret, hIx _ _ _ hi3 ht3, hl4, hk4⟩⟩
        | exit id =>
          obtain ⟨hk3, hi3⟩ := hp
          obtain ⟨hr, ht3, hc3, hl4, hk4⟩ := fin (some (.exit id)) W3 hk3
          exact ⟨_, _, hr, hc3, .inr ⟨rfl, .exit id, hIx _ _ _ hi3 ht3, hl4, hk4⟩⟩
        | goto t =>
          obtain ⟨hk3, hi3⟩ := hp
          obtain ⟨hr, ht3, hc3, hl4, hk4⟩ := fin (some (.goto t)) W3 hk3
          exact ⟨_, _, hr, hc3, .inr ⟨rfl, .goto t, hIx _ _ _ hi3 ht3, hl4, hk4⟩⟩
        | panic ch => exact hp.elim
        | outgrown => exact hp.elim
      exact ⟨trivial, fun c cs _ => hround.2 c cs (room_wide _)⟩
    · rintro e W2 ⟨⟨v, rfl⟩, (⟨hi, hl, hk⟩ | ⟨c, hi, hl, hk⟩)⟩
      · exact ⟨none, _, by have := run_endLoop (P := P) hl (by rw [hrec]; simp); rw [hrec] at this; exact this, hdone _ _ (Nat.le_refl _) (hI _ _ _ hi (.putObj _ (by omega) hl rfl)) ((World.putObj_heap_other (by omega)).trans hk)⟩
      · exact ⟨some c, _, by have := run_endLoop (P := P) hl (by rw [hrec]; simp); rw [hrec] at this; exact this, hstop _ c _ (Nat.le_refl _) (hIx c _ _ hi (.putObj _ (by omega) hl rfl)) ((World.putObj_heap_other (by omega)).trans hk)⟩
/-- such a function's end without a return -/
theorem leave_markN {F : Fence} {n : Nat} {P : Program} {fn : Func} {R : Ending → World → Prop} {tmps : Array Value} {D : Nat} {W : World} {v : Value} (hK : W.heap[D]? = some (.deferred (some [])))
    (hr : ∀ W', Tame D W W' → (results fn tmps).run P W' = .ok v W') (hR : ∀ W', Tame D W W' → R (.returned v) W') :
    bodyPostM F n P fn R .normal { tmps := tmps, defers := [{ target := .collected D, args := #[] }] } W := leave_mark hK hr hR

end Go.Proofs.Ytcinhibmohkeiaa
