/- A range over a function that hands over a pointer to what it works on itself: the iterator's contract and the caller's law, at the fence that asks nothing. -/
import Derived.Test.YtcinhibmohkeiaaQy18
namespace Go.Proofs.Ytcinhibmohkeiaa
open Go.RowKit
open Go.Sort (grow)
set_option linter.unusedVariables false
set_option linter.unusedSimpArgs false

/-- all blocks but one are as they were; there may be new ones -/
structure But (b : Nat) (W W' : World) : Prop where
  os : W'.os = W.os
  tape : W'.tape = W.tape
  output : W'.output = W.output
  size : W.heap.size ≤ W'.heap.size
  same : ∀ k, k < W.heap.size → k ≠ b → W'.heap[k]? = W.heap[k]?
/-- the blocks from B on are as they were -/
def KeepC (B : Nat) (W W' : World) : Prop := W.heap.size ≤ W'.heap.size ∧ ∀ k, B ≤ k → k < W.heap.size → W'.heap[k]? = W.heap[k]?
/-- what may turn for the client of such a loop: the block b, new blocks; from B on what is no cells -/
structure TameB (B b : Nat) (W W' : World) : Prop where
  os : W'.os = W.os
  tape : W'.tape = W.tape
  output : W'.output = W.output
  size : W.heap.size ≤ W'.heap.size
  same : ∀ k, k < W.heap.size → W'.heap[k]? = W.heap[k]? ∨ k = b ∨ (B ≤ k ∧ ∃ o, W.heap[k]? = some o ∧ o.isCells = false)
section
variable {B b : Nat} {W W' W'' : World}
theorem But.of_below (h : Below W.heap.size W W') : But b W W' := ⟨h.os, h.tape, h.output, h.size, fun k hk _ => h.block k hk⟩
theorem But.refl (b : Nat) (W : World) : But b W W := ⟨rfl, rfl, rfl, Nat.le_refl _, fun _ _ _ => rfl⟩
theorem But.trans (h : But b W W') (k : But b W' W'') : But b W W'' :=
  ⟨k.os.trans h.os, k.tape.trans h.tape, k.output.trans h.output, Nat.le_trans h.size k.size, fun j h1 h2 => (k.same j (Nat.lt_of_lt_of_le h1 h.size) h2).trans (h.same j h1 h2)⟩
theorem But.set (hb : b < W.heap.size) (j : Nat) (u : Value) : But b W (W.setCell ⟨b, j, none⟩ u) :=
  ⟨rfl, rfl, rfl, by simp, fun g _ h => Below.heap_setCell W _ _ g h⟩
theorem But.drew (h : But b W W') : But b W W'.drew := ⟨h.os, h.tape, h.output, h.size, h.same⟩
theorem But.cell {p : Addr} (h : But b W W') (h0 : p.block < W.heap.size) (h1 : p.block ≠ b) : W'.cell? p = W.cell? p := World.cell?_of_block (h.same _ h0 h1)
theorem But.below (h : But b W W') {n : Nat} {w : World} (hn : n ≤ b) (hs : n ≤ W.heap.size) (hb : Below n w W) : Below n w W' :=
  ⟨h.os.trans hb.os, h.tape.trans hb.tape, h.output.trans hb.output, Nat.le_trans hb.size h.size, fun k hk => (h.same k (by omega) (by omega)).trans (hb.block k hk)⟩
theorem But.ints {A : Option Addr} {n : Nat} {xs : List Int} (h : But b W W') (hx : IntsAt W A n xs) (hA : ∀ a, A = some a → a.block ≠ b) : IntsAt W' A n xs := by
  refine ⟨hx.1, fun hn => ?_⟩
  obtain ⟨g, off, rfl, hg, hc⟩ := hx.2 hn
  exact ⟨g, off, rfl, Nat.lt_of_lt_of_le hg h.size, fun k hk j u hu => (World.cell?_of_block (h.same g hg (hA _ rfl))).trans (hc k hk j u hu)⟩
theorem KeepC.refl (B : Nat) (W : World) : KeepC B W W := ⟨Nat.le_refl _, fun _ _ _ => rfl⟩
theorem KeepC.trans (h : KeepC B W W') (k : KeepC B W' W'') : KeepC B W W'' := ⟨Nat.le_trans h.1 k.1, fun j h1 h2 => (k.2 j h1 (Nat.lt_of_lt_of_le h2 h.1)).trans (h.2 j h1 h2)⟩
theorem KeepC.of_below (h : Below W.heap.size W W') : KeepC B W W' := ⟨h.size, fun k _ hk => h.block k hk⟩
theorem KeepC.blk {g : Nat} {t : TypeId} {cs : Array Value} (h : KeepC B W W') (hb : Blk W g t cs) (h1 : B ≤ g) : Blk W' g t cs := (h.2 g h1 hb.lt).trans hb
theorem KeepC.cell {p : Addr} (h : KeepC B W W') (h0 : p.block < W.heap.size) (h1 : B ≤ p.block) : W'.cell? p = W.cell? p := World.cell?_of_block (h.2 _ h1 h0)
theorem KeepC.set {p : Addr} (hp : p.block < B) (u : Value) : KeepC B W (W.setCell p u) := ⟨by simp, fun g h1 _ => Below.heap_setCell W _ _ g (by omega)⟩
theorem KeepC.alloc (o : Obj) : KeepC B W (W.alloc o) := .of_below ((Below.refl _ W).alloc (Nat.le_refl _) o)
theorem KeepC.drew (h : KeepC B W W') : KeepC B W W'.drew := h
theorem KeepC.ints {A : Option Addr} {n : Nat} {xs : List Int} (h : KeepC B W W') (hx : IntsAt W A n xs) (hA : ∀ a, A = some a → B ≤ a.block) : IntsAt W' A n xs := by
  refine ⟨hx.1, fun hn => ?_⟩
  obtain ⟨b, off, rfl, hb, hc⟩ := hx.2 hn
  exact ⟨b, off, rfl, Nat.lt_of_lt_of_le hb h.1, fun k hk j u hu => (World.cell?_of_block (h.2 b (hA _ rfl) hb)).trans (hc k hk j u hu)⟩
theorem TameB.of_but (h : But b W W') : TameB B b W W' := ⟨h.os, h.tape, h.output, h.size, fun k hk => by
  by_cases e : k = b
  · exact .inr (.inl e)
  · exact .inl (h.same k hk e)⟩
theorem TameB.of_tame (h : Tame B W W') : TameB B b W W' := ⟨h.os, h.tape, h.output, h.size, fun k hk => (h.same k hk).imp_right .inr⟩
theorem TameB.of_below (h : Below W.heap.size W W') : TameB B b W W' := .of_tame (.of_below h)
theorem TameB.heap {k : Nat} {o : Obj} (h : TameB B b W W') (hk : W.heap[k]? = some o) (ho : o.isCells = true) (hb : k ≠ b) : W'.heap[k]? = W.heap[k]? := by
  rcases h.same k (Array.getElem?_eq_some_iff.1 hk).1 with h | h | ⟨_, o', h1, h2⟩
  · exact h
  · exact absurd h hb
  · rw [hk] at h1; cases h1; rw [ho] at h2; cases h2
theorem TameB.cell {a : Addr} {v : Value} (h : TameB B b W W') (hc : W.cell? a = some v) (hb : a.block ≠ b) : W'.cell? a = some v := by
  obtain ⟨o, h1, h2⟩ := cells_of_cell hc
  rw [World.cell?_of_block (h.heap h1 h2 hb)]; exact hc
theorem TameB.frozen {a : Addr} {v : Value} {f : Bool} (h : TameB B b W W') (hc : W.cell? a = some v) (hf : W.frozen? a = f) (hb : a.block ≠ b) : W'.frozen? a = f := by
  obtain ⟨o, h1, h2⟩ := cells_of_cell hc
  rw [World.frozen?_of_block (h.heap h1 h2 hb)]; exact hf
theorem TameB.blk {g : Nat} {t : TypeId} {cs : Array Value} (h : TameB B b W W') (hk : Blk W g t cs) (hb : g ≠ b) : Blk W' g t cs := (h.heap hk rfl hb).trans hk
theorem TameB.below {n : Nat} {w : World} (h : TameB B b W W') (hn : n ≤ B) (hnb : n ≤ b) (hs : n ≤ W.heap.size) (hb : Below n w W) : Below n w W' :=
  ⟨h.os.trans hb.os, h.tape.trans hb.tape, h.output.trans hb.output, Nat.le_trans hb.size h.size, fun k hk => by
    rcases h.same k (by omega) with h1 | h1 | ⟨h1, _⟩
    · exact h1.trans (hb.block k hk)
    · omega
    · omega⟩
theorem TameB.own {base : Nat} {e : TypeId} {size n : Nat} {v : Value} {xs : List Value} (h : TameB B b W W') (ho : W.ownsRow base e size v n xs) (hv : v.ownBlock ≠ some b) : W'.ownsRow base e size v n xs := by
  obtain ⟨h1, h2⟩ := ho
  refine ⟨h1, ?_⟩
  rcases h2 with h2 | ⟨g, cap, cur, rfl, hg, hh, r⟩
  · exact Or.inl h2
  · exact Or.inr ⟨g, cap, cur, rfl, hg, (h.heap hh rfl (fun e => hv (by rw [e]; rfl))).trans hh, r⟩
theorem TameB.marks {Ds : List Nat} {C : Nat} (h : TameB B b W W') (hm : MarksOk Ds W) (hC : ∀ D ∈ Ds, D < C) (hB : C ≤ B) (hb : C ≤ b) : MarksOk Ds W' := ⟨hm.1, fun D hD => by
  have hl := hC D hD
  rcases h.same D (hm.lt D hD) with h1 | h1 | ⟨h1, _⟩
  · exact h1.trans (hm.2 D hD)
  · omega
  · omega⟩
theorem TameB.trans (h : TameB B b W W') (k : TameB B b W' W'') : TameB B b W W'' :=
  ⟨k.os.trans h.os, k.tape.trans h.tape, k.output.trans h.output, Nat.le_trans h.size k.size, fun j hj => by
    rcases h.same j hj with h1 | h1 | h1
    · rcases k.same j (Nat.lt_of_lt_of_le hj h.size) with k1 | k1 | ⟨k1, k2⟩
      · exact .inl (k1.trans h1)
      · exact .inr (.inl k1)
      · rw [h1] at k2; exact .inr (.inr ⟨k1, k2⟩)
    · exact .inr (.inl h1)
    · exact .inr (.inr h1)⟩
end
/-- THE ITERATOR's CONTRACT: it hands over a pointer to a block b of its own, in which xs lies, one after the other, as 'At' says. -/
def IterS {α : Type} (P : Program) (g : Nat) (fst lb : Array Value) (Mem : World → Prop) (xs : List α) (At : Nat → Nat → α → World → Prop) : Prop :=
  ∀ (l : Nat) (J : Nat → Nat → World → Prop) (Jx : World → Prop) (W : World), (∀ b k W1, W.heap.size ≤ b → J b k W1 → Mem W1) →
    (∀ b k W1 W2, W.heap.size ≤ b → J b k W1 → But b W1 W2 → J b k W2) →
    (∀ b k x W1, W.heap.size ≤ b → xs[k]? = some x → J b k W1 → At W.heap.size b x W1 → YieldW P l #[.pointer (some ⟨b, 0, none⟩)] W1 fun e W' => (e = .returned (.bool true) ∧ J b (k + 1) W' ∧ KeepC W.heap.size W1 W') ∨ (e = .returned (.bool false) ∧ Jx W')) →
    (∀ b W1, W.heap.size ≤ b → Below W.heap.size W W1 → J b 0 W1) → Mem W →
    Calls P g (fst ++ #[.func (.yield l) #[] #[]] ++ lb) W fun e W' => (∃ v, e = .returned v) ∧ ((∃ b, W.heap.size ≤ b ∧ J b xs.length W') ∨ Jx W')
/-- how a round's body may be left -/
def rgPostS (B : Nat) (I : Nat → World → Prop) (Ix : Code → World → Prop) (k : Nat) (W : World) : Exit → Act → World → Prop
  | .normal, _, W' => KeepsFrom B W W' ∧ KeepC (B + 2) W W' ∧ I (k + 1) W'
  | .ret, _, W' => KeepsFrom B W W' ∧ Ix .ret W'
  | .exit id, _, W' => KeepsFrom B W W' ∧ Ix (.exit id) W'
  | .goto t, _, W' => KeepsFrom B W W' ∧ Ix (.goto t) W'
  | .panic _, _, _ => False
  | .outgrown, _, _ => False
theorem KeepC.putObj {B l : Nat} {W : World} (o : Obj) (hl : l < B) : KeepC B W (W.putObj l o) := ⟨by simp [World.putObj], fun k h1 _ => World.putObj_heap_other (by omega)⟩

theorem wpIn_rangeS {P : Program} {n : Nat} {α : Type} {g : Operand} {ps : Array Tmp} {assign body : Code} {Q : Exit → Act → World → Prop} {a : Act} {w : World}
    {gf : Nat} {fst lb : Array Value} (hg : a.eval g = .func (.func gf) fst lb) (eg : ∀ args w, (callFunc gf args).run P w = .ok (.enter gf args) w)
    {Mem : World → Prop} {xs : List α} {At : Nat → Nat → α → World → Prop} (hit : IterS P gf fst lb Mem xs At) (hps : ps.size = 1)
    (I : Nat → Nat → World → Prop) (Ix : Code → World → Prop) (hI : ∀ b k W W', w.heap.size + 2 ≤ b → I b k W → TameB w.heap.size b W W' → I b k W') (hIx : ∀ c W W', Ix c W → Tame w.heap.size W W' → Ix c W')
    (hmem : ∀ b k W, w.heap.size + 2 ≤ b → I b k W → Mem W) (h0 : ∀ b W, w.heap.size + 2 ≤ b → Below w.heap.size w W → I b 0 W)
    (hround : ∀ (l b k : Nat) (x : α) (W : World), w.heap.size ≤ l → w.heap.size + 2 ≤ b → xs[k]? = some x → I b k W → At (w.heap.size + 2) b x W →
      assign.wpIn (Fence.wide.inRound l) (n - 1 - 1) P (Exit.then (fun a' W' => KeepsFrom w.heap.size W W' ∧ KeepC (w.heap.size + 2) W W' ∧ ∀ W2, Tame w.heap.size W' W2 → body.wpIn (Fence.wide.inRound l) (n - 1 - 1) P (rgPostS w.heap.size (I b) Ix k W2) a' W2) (fun _ _ _ => False))
        { tmps := (ps.zip #[.pointer (some ⟨b, 0, none⟩)]).foldl (fun t (p, v) => t.setIfInBounds p v) a.tmps, defers := [] } W)
    (hdone : ∀ (D b : Nat) (W : World), w.heap.size ≤ D → w.heap.size + 2 ≤ b → I b xs.length W → W.heap[D]? = some (.deferred (some [])) → Q .normal { a with defers := { target := .collected D, args := #[] } :: a.defers } W)
    (hstop : ∀ (D : Nat) (c : Code) (W : World), w.heap.size ≤ D → Ix c W → W.heap[D]? = some (.deferred (some [])) → c.wpIn Fence.wide n P Q { a with defers := { target := .collected D, args := #[] } :: a.defers } W) :
    (Code.rangeFunc g ps assign body).wpIn Fence.wide n P Q a w := by
  refine wpIn_rangeFunc ?_
  intro fn hfn
  obtain ⟨rec, hrec⟩ : ∃ rec : LoopState → Option Code → Loop, rec = fun st pe => { state := st, pending := pe, fn, tmps := a.tmps, params := ps, assign, body, defers := w.heap.size } := ⟨_, rfl⟩
  obtain ⟨W1, hW1⟩ : ∃ W1, (w.alloc (.deferred (some []))).alloc (.loop (rec .ready none)) = W1 := ⟨_, rfl⟩
  have hL1 : W1.heap[w.heap.size + 1]? = some (.loop (rec .ready none)) := by
    rw [← hW1]; have := World.alloc_heap_new (w.alloc (.deferred (some []))) (.loop (rec .ready none)); rwa [World.size_alloc] at this
  have hK1 : W1.heap[w.heap.size]? = some (.deferred (some [])) := by
    rw [← hW1]; exact (Below.heap_alloc _ _ _ (by simp)).trans (World.alloc_heap_new w _)
  have hb1 : Below w.heap.size w W1 := by
    rw [← hW1]; exact ((Below.refl _ w).alloc (Nat.le_refl _) _).alloc (by simp) _
  have hs1 : W1.heap.size = w.heap.size + 2 := by rw [← hW1]; simp
  refine ⟨w.heap.size + 1, [{ target := .collected w.heap.size, args := #[] }], W1, { target := .fn (.func gf) lb, args := fst ++ #[.func (.yield (w.heap.size + 1)) #[] #[]] }, W1, gf,
    fst ++ #[.func (.yield (w.heap.size + 1)) #[] #[]] ++ lb, W1, ?_, ?_, ?_, ?_, fun h => by simp [Fence.wide] at h, ?_⟩
  · rw [← hW1, hrec]; exact run_enterLoop_outer _ _ _ _ _
  · simp only [resolve, hg]
    simp [go_sem]
  · intro f' hf'; trivial
  · simp [invoke, go_sem, eg]
  · have h0' : ∀ b W, w.heap.size + 2 ≤ b → Below W1.heap.size W1 W → I b 0 W := fun b W hb h => h0 b W hb (hb1.trans (h.mono (by omega)))
    refine callsIn_wide.2 ((hit (w.heap.size + 1)
      (fun b k W => I b k W ∧ W.heap[w.heap.size + 1]? = some (.loop (rec .ready none)) ∧ W.heap[w.heap.size]? = some (.deferred (some [])))
      (fun W => ∃ c, Ix c W ∧ W.heap[w.heap.size + 1]? = some (.loop (rec .done (some c))) ∧ W.heap[w.heap.size]? = some (.deferred (some [])))
      W1 (fun b k W hb h => hmem b k W (by omega) h.1)
      (fun b k A C hb hs hbt => ⟨hI b k A C (by omega) hs.1 (.of_but hbt), (hbt.same _ (Array.getElem?_eq_some_iff.1 hs.2.1).1 (by omega)).trans hs.2.1, (hbt.same _ (Array.getElem?_eq_some_iff.1 hs.2.2).1 (by omega)).trans hs.2.2⟩)
      ?_ (fun b W hb h => ⟨h0' b W (by omega) h, (h.block _ (Array.getElem?_eq_some_iff.1 hL1).1).trans hL1, (h.block _ (Array.getElem?_eq_some_iff.1 hK1).1).trans hK1⟩)
      (hmem (w.heap.size + 2) 0 W1 (Nat.le_refl _) (h0' _ _ (Nat.le_refl _) (Below.refl _ _)))).mono ?_)
    · rintro b k x W hbW hx ⟨hi, hl, hk⟩ hat
      rw [hs1] at hbW hat ⊢
      have hy := run_yield (P := P) (args := #[.pointer (some ⟨b, 0, none⟩)]) hl (by rw [hrec]; exact hps.symm)
      rw [hrec] at hy
      refine ⟨fn, _, assign, body, hy, fun m => ?_⟩
      have hround : RoundIn Fence.wide (n - 1 - 1) P (w.heap.size + 1) fn ((ps.zip #[.pointer (some ⟨b, 0, none⟩)]).foldl (fun t (p, v) => t.setIfInBounds p v) a.tmps) assign body W fun e W' =>
          (e = .returned (.bool true) ∧ (I b (k + 1) W' ∧ W'.heap[w.heap.size + 1]? = some (.loop (rec .ready none)) ∧ W'.heap[w.heap.size]? = some (.deferred (some []))) ∧ KeepC (w.heap.size + 2) W W') ∨
          (e = .returned (.bool false) ∧ ∃ c, Ix c W' ∧ W'.heap[w.heap.size + 1]? = some (.loop (rec .done (some c))) ∧ W'.heap[w.heap.size]? = some (.deferred (some []))) := by
        refine roundIn_of_wpIn trivial (wpIn_mono (hround (w.heap.size + 1) b k x W (by omega) hbW hx hi hat) ?_)
        rintro e' a' Wa hpa
        have hn : e' = .normal := by cases e' <;> first | rfl | exact (hpa : False).elim
        subst hn
        obtain ⟨hkfa, hkca, hbd⟩ := hpa
        have hla := hkfa.same _ _ (by omega) hl rfl
        have hka := hkfa.same _ _ (Nat.le_refl _) hk rfl
        have hlt : w.heap.size + 1 < Wa.heap.size := (Array.getElem?_eq_some_iff.1 hla).1
        refine ⟨_, run_beginRound hla (by rw [hrec]), ?_⟩
        have hl2 : (Wa.putObj (w.heap.size + 1) (.loop { rec .ready none with state := .busy })).heap[w.heap.size + 1]? = some (.loop { rec .ready none with state := .busy }) := World.putObj_heap_same hlt
        have hk2 : (Wa.putObj (w.heap.size + 1) (.loop { rec .ready none with state := .busy })).heap[w.heap.size]? = some (.deferred (some [])) := (World.putObj_heap_other (by omega)).trans hka
        have ht : Tame w.heap.size Wa (Wa.putObj (w.heap.size + 1) (.loop { rec .ready none with state := .busy })) := .putObj _ (by omega) hla rfl
        have hkc2 : KeepC (w.heap.size + 2) W (Wa.putObj (w.heap.size + 1) (.loop { rec .ready none with state := .busy })) := hkca.trans (.putObj _ (by omega))
        refine wpIn_mono (hbd _ ht) ?_
        have fin : ∀ (jump : Option Code) (W3 : World), KeepsFrom w.heap.size (Wa.putObj (w.heap.size + 1) (.loop { rec .ready none with state := .busy })) W3 →
            (Instr.endRound (w.heap.size + 1) jump).run P W3 = .ok (.bool jump.isNone) (W3.putObj (w.heap.size + 1) (.loop (rec (if jump.isNone then .ready else .done) jump))) ∧
            Tame w.heap.size W3 (W3.putObj (w.heap.size + 1) (.loop (rec (if jump.isNone then .ready else .done) jump))) ∧
            (W3.putObj (w.heap.size + 1) (.loop (rec (if jump.isNone then .ready else .done) jump))).heap[w.heap.size + 1]? = some (.loop (rec (if jump.isNone then .ready else .done) jump)) ∧
            (W3.putObj (w.heap.size + 1) (.loop (rec (if jump.isNone then .ready else .done) jump))).heap[w.heap.size]? = some (.deferred (some [])) := fun jump W3 hk3 => by
          have hl3 := hk3.same _ _ (by omega) hl2 rfl
          have := run_endRound (P := P) jump hl3
          rw [hrec] at this ⊢
          exact ⟨this, .putObj _ (by omega) hl3 rfl, World.putObj_heap_same (Array.getElem?_eq_some_iff.1 hl3).1, (World.putObj_heap_other (by omega)).trans (hk3.same _ _ (Nat.le_refl _) hk2 rfl)⟩
        rintro e a3 W3 hp
        cases e with
        | normal =>
          obtain ⟨hk3, hc3, hi3⟩ := hp
          obtain ⟨hr, ht3, hl4, hk4⟩ := fin none W3 hk3
          exact ⟨_, _, hr, .inl ⟨rfl, ⟨hI _ _ _ _ hbW hi3 (.of_tame ht3), hl4, hk4⟩, (hkc2.trans hc3).trans (.putObj _ (by omega))⟩⟩
        | ret =>
          obtain ⟨hk3, hi3⟩ := hp
          obtain ⟨hr, ht3, hl4, hk4⟩ := fin (some .ret) W3 hk3
          exact ⟨_, _, hr, .inr ⟨rfl, .ret, hIx _ _ _ hi3 ht3, hl4, hk4⟩⟩
        | exit id =>
          obtain ⟨hk3, hi3⟩ := hp
          obtain ⟨hr, ht3, hl4, hk4⟩ := fin (some (.exit id)) W3 hk3
          exact ⟨_, _, hr, .inr ⟨rfl, .exit id, hIx _ _ _ hi3 ht3, hl4, hk4⟩⟩
        | goto t =>
          obtain ⟨hk3, hi3⟩ := hp
          obtain ⟨hr, ht3, hl4, hk4⟩ := fin (some (.goto t)) W3 hk3
          exact ⟨_, _, hr, .inr ⟨rfl, .goto t, hIx _ _ _ hi3 ht3, hl4, hk4⟩⟩
        | panic ch => exact hp.elim
        | outgrown => exact hp.elim
      exact ⟨trivial, fun c cs _ => hround.2 c cs (room_wide _)⟩
    · rintro e W2 ⟨⟨v, rfl⟩, (⟨b, hbb, hi, hl, hk⟩ | ⟨c, hi, hl, hk⟩)⟩
      · exact ⟨none, _, by have := run_endLoop (P := P) hl (by rw [hrec]; simp); rw [hrec] at this; exact this, hdone _ b _ (Nat.le_refl _) (by omega) (hI _ _ _ _ (by omega) hi (.of_tame (.putObj _ (by omega) hl rfl))) ((World.putObj_heap_other (by omega)).trans hk)⟩
      · exact ⟨some c, _, by have := run_endLoop (P := P) hl (by rw [hrec]; simp); rw [hrec] at this; exact this, hstop _ c _ (Nat.le_refl _) (hIx c _ _ hi (.putObj _ (by omega) hl rfl)) ((World.putObj_heap_other (by omega)).trans hk)⟩

end Go.Proofs.Ytcinhibmohkeiaa
