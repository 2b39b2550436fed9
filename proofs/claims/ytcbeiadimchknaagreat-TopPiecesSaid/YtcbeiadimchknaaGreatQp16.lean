/- A range over a function whose iterator has memory of its own, and may itself range over a function: the iterator's contract and the caller's law, at the fence that asks nothing; Worlds that agree below a bound but for some blocks of one's own (for loops over iterators). -/
import Derived.Test.YtcbeiadimchknaaGreatQp10
namespace Go.Proofs.YtcbeiadimchknaaGreat
open Go.RowKit
open Go.Sort (grow)
set_option linter.unusedVariables false
set_option linter.unusedSimpArgs false

/-- a step of the iterator's own: K: the blocks that it has made; O: those of them that it may still write -/
structure Stp (K O K' O' : Nat → Prop) (W W' : World) : Prop where
  os : W'.os = W.os
  tape : W'.tape = W.tape
  output : W'.output = W.output
  size : W.heap.size ≤ W'.heap.size
  sub : ∀ b, K b → K' b
  newK : ∀ b, K' b → K b ∨ (W.heap.size ≤ b ∧ b < W'.heap.size)
  newO : ∀ b, O' b → O b ∨ W.heap.size ≤ b
  inO : ∀ b, O' b → K' b
  same : ∀ k, k < W.heap.size → ¬ O k → W'.heap[k]? = W.heap[k]?
/-- what the client's round leaves as it was -/
def KpO (K : Nat → Prop) (W W' : World) : Prop := W.heap.size ≤ W'.heap.size ∧ ∀ k, K k → k < W.heap.size → W'.heap[k]? = W.heap[k]?
/-- two blocks, those of a loop's own record, may turn -/
structure Turn (B : Nat) (W W' : World) : Prop where
  os : W'.os = W.os
  tape : W'.tape = W.tape
  output : W'.output = W.output
  size : W.heap.size ≤ W'.heap.size
  same : ∀ k, k < W.heap.size → k ≠ B → k ≠ B + 1 → W'.heap[k]? = W.heap[k]?
/-- the record of a loop is as it was -/
def KeepL (B : Nat) (W W' : World) : Prop := W.heap.size ≤ W'.heap.size ∧ W'.heap[B]? = W.heap[B]? ∧ W'.heap[B + 1]? = W.heap[B + 1]?
section
variable {K O K' O' K'' O'' : Nat → Prop} {B : Nat} {W W' W'' : World}
theorem Stp.refl (h : ∀ b, O b → K b) : Stp K O K O W W := ⟨rfl, rfl, rfl, Nat.le_refl _, fun _ h => h, fun _ h => .inl h, fun _ h => .inl h, h, fun _ _ _ => rfl⟩
theorem Stp.trans (h : Stp K O K' O' W W') (k : Stp K' O' K'' O'' W' W'') : Stp K O K'' O'' W W'' :=
  ⟨k.os.trans h.os, k.tape.trans h.tape, k.output.trans h.output, Nat.le_trans h.size k.size, fun b hb => k.sub b (h.sub b hb),
   fun b hb => (k.newK b hb).elim (fun e => (h.newK b e).imp_right fun e => ⟨e.1, Nat.lt_of_lt_of_le e.2 k.size⟩) fun e => .inr ⟨Nat.le_trans h.size e.1, e.2⟩, fun b hb => (k.newO b hb).elim (h.newO b) fun e => .inr (Nat.le_trans h.size e), k.inO,
   fun j h1 h2 => (k.same j (Nat.lt_of_lt_of_le h1 h.size) fun e => (h.newO j e).elim h2 fun e' => by omega).trans (h.same j h1 h2)⟩
/-- nothing that was there turns; all that is new may be written -/
theorem Stp.of_below (h : Below W.heap.size W W') (hK : ∀ b, O b → K b) : Stp K O (fun b => K b ∨ (W.heap.size ≤ b ∧ b < W'.heap.size)) (fun b => O b ∨ (W.heap.size ≤ b ∧ b < W'.heap.size)) W W' :=
  ⟨h.os, h.tape, h.output, h.size, fun _ h => .inl h, fun _ h => h, fun _ h => h.imp_right fun e => e.1, fun b h => h.imp_left (hK b), fun k hk _ => h.block k hk⟩
theorem Stp.below_ro (h : Below W.heap.size W W') (hK : ∀ b, O b → K b) : Stp K O (fun b => K b ∨ (W.heap.size ≤ b ∧ b < W'.heap.size)) O W W' :=
  ⟨h.os, h.tape, h.output, h.size, fun _ h => .inl h, fun _ h => h, fun _ h => .inl h, fun b h => .inl (hK b h), fun k hk _ => h.block k hk⟩
theorem Stp.set {p : Addr} (hp : O p.block) (hK : ∀ b, O b → K b) (u : Value) : Stp K O K O W (W.setCell p u) :=
  ⟨rfl, rfl, rfl, by simp, fun _ h => h, fun _ h => .inl h, fun _ h => .inl h, hK, fun k _ hn => Below.heap_setCell W p u k (fun e => hn (by rw [e]; exact hp))⟩
theorem Stp.cell {p : Addr} (h : Stp K O K' O' W W') (h0 : p.block < W.heap.size) (h1 : ¬ O p.block) : W'.cell? p = W.cell? p := World.cell?_of_block (h.same _ h0 h1)
theorem Stp.frozen {p : Addr} (h : Stp K O K' O' W W') (h0 : p.block < W.heap.size) (h1 : ¬ O p.block) : W'.frozen? p = W.frozen? p := World.frozen?_of_block (h.same _ h0 h1)
theorem Stp.blk {g : Nat} {t : TypeId} {cs : Array Value} (h : Stp K O K' O' W W') (hb : Blk W g t cs) (h1 : ¬ O g) : Blk W' g t cs := (h.same g hb.lt h1).trans hb
theorem Stp.below {n : Nat} {w : World} (h : Stp K O K' O' W W') (hn : ∀ b, O b → n ≤ b) (hs : n ≤ W.heap.size) (hb : Below n w W) : Below n w W' :=
  ⟨h.os.trans hb.os, h.tape.trans hb.tape, h.output.trans hb.output, Nat.le_trans hb.size h.size, fun k hk => (h.same k (by omega) (fun e => by have := hn k e; omega)).trans (hb.block k hk)⟩
theorem Stp.own {base : Nat} {e : TypeId} {size n : Nat} {v : Value} {xs : List Value} (h : Stp K O K' O' W W') (ho : W.ownsRow base e size v n xs) (hv : ∀ q, v.ownBlock = some q → ¬ O q) : W'.ownsRow base e size v n xs := by
  obtain ⟨h1, h2⟩ := ho
  refine ⟨h1, ?_⟩
  rcases h2 with h2 | ⟨g, cap, cur, rfl, hg, hh, r⟩
  · exact Or.inl h2
  · exact Or.inr ⟨g, cap, cur, rfl, hg, (h.same g (Array.getElem?_eq_some_iff.1 hh).1 (hv g rfl)).trans hh, r⟩
theorem Stp.rows {size n : Nat} {A : Option Addr} {f : Nat → List Value} (h : Stp K O K' O' W W') (hr : RowsAt W size A n f) (hA : ∀ a, A = some a → ¬ O a.block) : RowsAt W' size A n f := fun hn => by
  obtain ⟨b, off, e, hlt, hc⟩ := hr hn
  exact ⟨b, off, e, Nat.lt_of_lt_of_le hlt h.size, fun k hk j u hu => (World.cell?_of_block (a := ⟨b, off + k * size + j, none⟩) (h.same b hlt (hA _ e))).trans (hc k hk j u hu)⟩
theorem KpO.refl : KpO K W W := ⟨Nat.le_refl _, fun _ _ _ => rfl⟩
theorem KpO.trans (h : KpO K W W') (k : KpO K W' W'') : KpO K W W'' := ⟨Nat.le_trans h.1 k.1, fun j h1 h2 => (k.2 j h1 (Nat.lt_of_lt_of_le h2 h.1)).trans (h.2 j h1 h2)⟩
theorem KpO.of_below (h : Below W.heap.size W W') : KpO K W W' := ⟨h.size, fun k _ hk => h.block k hk⟩
theorem KpO.set {p : Addr} (hp : ¬ K p.block) (u : Value) : KpO K W (W.setCell p u) := ⟨by simp, fun g h1 _ => Below.heap_setCell W _ _ g (fun e => hp (by rw [← e]; exact h1))⟩
theorem KpO.of_keepC (h : KeepC B W W') (hK : ∀ b, K b → B ≤ b) : KpO K W W' := ⟨h.1, fun k h1 h2 => h.2 k (hK k h1) h2⟩
theorem KpO.mono (h : KpO K W W') (hs : ∀ b, K' b → K b) : KpO K' W W' := ⟨h.1, fun k h1 h2 => h.2 k (hs k h1) h2⟩
theorem KpO.blk {g : Nat} {t : TypeId} {cs : Array Value} (h : KpO K W W') (hb : Blk W g t cs) (h1 : K g) : Blk W' g t cs := (h.2 g h1 hb.lt).trans hb
theorem KpO.cell {p : Addr} (h : KpO K W W') (h0 : p.block < W.heap.size) (h1 : K p.block) : W'.cell? p = W.cell? p := World.cell?_of_block (h.2 _ h1 h0)
theorem Turn.cell {p : Addr} (h : Turn B W W') (h0 : p.block < W.heap.size) (h1 : p.block ≠ B ∧ p.block ≠ B + 1) : W'.cell? p = W.cell? p := World.cell?_of_block (h.same _ h0 h1.1 h1.2)
theorem Turn.frozen {p : Addr} (h : Turn B W W') (h0 : p.block < W.heap.size) (h1 : p.block ≠ B ∧ p.block ≠ B + 1) : W'.frozen? p = W.frozen? p := World.frozen?_of_block (h.same _ h0 h1.1 h1.2)
theorem Turn.blk {g : Nat} {t : TypeId} {cs : Array Value} (h : Turn B W W') (hb : Blk W g t cs) (h1 : g ≠ B ∧ g ≠ B + 1) : Blk W' g t cs := (h.same g hb.lt h1.1 h1.2).trans hb
theorem Turn.below {n : Nat} {w : World} (h : Turn B W W') (hn : n ≤ B) (hs : n ≤ W.heap.size) (hb : Below n w W) : Below n w W' :=
  ⟨h.os.trans hb.os, h.tape.trans hb.tape, h.output.trans hb.output, Nat.le_trans hb.size h.size, fun k hk => (h.same k (by omega) (by omega) (by omega)).trans (hb.block k hk)⟩
theorem Turn.own {base : Nat} {e : TypeId} {size n : Nat} {v : Value} {xs : List Value} (h : Turn B W W') (ho : W.ownsRow base e size v n xs) (hv : ∀ q, v.ownBlock = some q → q ≠ B ∧ q ≠ B + 1) : W'.ownsRow base e size v n xs := by
  obtain ⟨h1, h2⟩ := ho
  refine ⟨h1, ?_⟩
  rcases h2 with h2 | ⟨g, cap, cur, rfl, hg, hh, r⟩
  · exact Or.inl h2
  · exact Or.inr ⟨g, cap, cur, rfl, hg, (h.same g (Array.getElem?_eq_some_iff.1 hh).1 (hv g rfl).1 (hv g rfl).2).trans hh, r⟩
theorem Turn.rows {size n : Nat} {A : Option Addr} {f : Nat → List Value} (h : Turn B W W') (hr : RowsAt W size A n f) (hA : ∀ a, A = some a → a.block ≠ B ∧ a.block ≠ B + 1) : RowsAt W' size A n f := fun hn => by
  obtain ⟨b, off, e, hlt, hc⟩ := hr hn
  exact ⟨b, off, e, Nat.lt_of_lt_of_le hlt h.size, fun k hk j u hu => (World.cell?_of_block (a := ⟨b, off + k * size + j, none⟩) (h.same b hlt (hA _ e).1 (hA _ e).2)).trans (hc k hk j u hu)⟩
theorem Turn.stp (h : Turn B W W') (h1 : O B) (h2 : O (B + 1)) (hK : ∀ b, O b → K b) : Stp K O K O W W' :=
  ⟨h.os, h.tape, h.output, h.size, fun _ h => h, fun _ h => .inl h, fun _ h => .inl h, hK, fun k hk hn => h.same k hk (fun e => hn (by rw [e]; exact h1)) (fun e => hn (by rw [e]; exact h2))⟩
theorem Turn.kp (h : Turn B W W') (hK : ∀ b, K b → b ≠ B ∧ b ≠ B + 1) : KpO K W W' := ⟨h.size, fun k h1 h2 => h.same k h2 (hK k h1).1 (hK k h1).2⟩
theorem Turn.putObj {o : Obj} {l : Nat} (hl : l = B ∨ l = B + 1) : Turn B W (W.putObj l o) := ⟨rfl, rfl, rfl, by simp [World.putObj], fun k _ h1 h2 => World.putObj_heap_other (by omega)⟩
theorem Turn.to_below (h : Turn B W W') (hs : B ≤ W.heap.size) : Below B W W' := h.below (Nat.le_refl _) hs (.refl _ _)
theorem Turn.refl : Turn B W W := ⟨rfl, rfl, rfl, Nat.le_refl _, fun _ _ _ _ => rfl⟩
theorem Turn.of_below (h : Below W.heap.size W W') : Turn B W W' := ⟨h.os, h.tape, h.output, h.size, fun k hk _ _ => h.block k hk⟩
theorem Turn.trans (h : Turn B W W') (k : Turn B W' W'') : Turn B W W'' :=
  ⟨k.os.trans h.os, k.tape.trans h.tape, k.output.trans h.output, Nat.le_trans h.size k.size, fun j h1 h2 h3 => (k.same j (Nat.lt_of_lt_of_le h1 h.size) h2 h3).trans (h.same j h1 h2 h3)⟩
theorem KeepL.refl : KeepL B W W := ⟨Nat.le_refl _, rfl, rfl⟩
theorem KeepL.of_kp (h : KpO K W W') (h1 : K B) (h2 : K (B + 1)) (hs : B + 1 < W.heap.size) : KeepL B W W' := ⟨h.1, h.2 _ h1 (by omega), h.2 _ h2 hs⟩
theorem KeepL.of_below (h : Below W.heap.size W W') (hs : B + 1 < W.heap.size) : KeepL B W W' := ⟨h.size, h.block _ (by omega), h.block _ hs⟩
theorem KeepL.set {p : Addr} (hp : p.block ≠ B ∧ p.block ≠ B + 1) (u : Value) : KeepL B W (W.setCell p u) := ⟨by simp, Below.heap_setCell W p u _ (Ne.symm hp.1), Below.heap_setCell W p u _ (Ne.symm hp.2)⟩
theorem KeepL.trans (h : KeepL B W W') (k : KeepL B W' W'') : KeepL B W W'' := ⟨Nat.le_trans h.1 k.1, k.2.1.trans h.2.1, k.2.2.trans h.2.2⟩
end
/-- THE ITERATOR's CONTRACT: it hands over xs, one after the other, each as 'At' says. -/
def IterO {α : Type} (P : Program) (g : Nat) (fst lb : Array Value) (Mem : World → Prop) (xs : List α) (At : (Nat → Prop) → (Nat → Prop) → α → Array Value → World → Prop) : Prop :=
  ∀ (l : Nat) (J : (Nat → Prop) → (Nat → Prop) → Nat → World → Prop) (Jx : World → Prop) (W : World), (∀ K O k W1, J K O k W1 → Mem W1) →
    (∀ K O K' O' k W1 W2, (∀ b, K b → W.heap.size ≤ b) → J K O k W1 → Stp K O K' O' W1 W2 → J K' O' k W2) → (∀ W1 W2, Jx W1 → Below W.heap.size W1 W2 → Jx W2) →
    (∀ K O k x args W1, (∀ b, K b → W.heap.size ≤ b) → (∀ b, O b → K b) → xs[k]? = some x → J K O k W1 → At K O x args W1 → YieldW P l args W1 fun e W' => (e = .returned (.bool true) ∧ J K O (k + 1) W' ∧ KpO K W1 W') ∨ (e = .returned (.bool false) ∧ Jx W' ∧ KpO K W1 W')) →
    J (fun _ => False) (fun _ => False) 0 W →
    Calls P g (fst ++ #[.func (.yield l) #[] #[]] ++ lb) W fun e W' => (∃ v, e = .returned v) ∧ ((∃ K O, (∀ b, K b → W.heap.size ≤ b) ∧ J K O xs.length W') ∨ Jx W')
/-- how a round's body may be left -/
def rgPostO (B : Nat) (K : Nat → Prop) (I : Nat → World → Prop) (Ix : Code → World → Prop) (k : Nat) (W : World) : Exit → Act → World → Prop
  | .normal, _, W' => KeepL B W W' ∧ KpO K W W' ∧ I (k + 1) W'
  | .ret, _, W' => KeepL B W W' ∧ KpO K W W' ∧ Ix .ret W'
  | .exit id, _, W' => KeepL B W W' ∧ KpO K W W' ∧ Ix (.exit id) W'
  | .goto t, _, W' => KeepL B W W' ∧ KpO K W W' ∧ Ix (.goto t) W'
  | .panic _, _, _ => False
  | .outgrown, _, _ => False
theorem roundIn_inRound {F : Fence} {n : Nat} {P : Program} {l' : Nat} {f : FuncId} {tmps : Array Value} {assign body : Code} {w : World} {R : Ending → World → Prop} (l : Nat) (h : RoundIn F n P l' f tmps assign body w R) : RoundIn (F.inRound l) n P l' f tmps assign body w R := h
theorem wpIn_rangeO {P : Program} {n : Nat} {α : Type} {g : Operand} {ps : Array Tmp} {assign body : Code} {Q : Exit → Act → World → Prop} {a : Act} {w : World}
    {gf : Nat} {fst lb : Array Value} (hg : a.eval g = .func (.func gf) fst lb) (eg : ∀ args w, (callFunc gf args).run P w = .ok (.enter gf args) w)
    {Mem : World → Prop} {xs : List α} {At : (Nat → Prop) → (Nat → Prop) → α → Array Value → World → Prop} (hit : IterO P gf fst lb Mem xs At) (hps : ∀ K O x args W, At K O x args W → args.size = ps.size)
    (I : (Nat → Prop) → (Nat → Prop) → Nat → World → Prop) (Ix : Code → World → Prop)
    (hI : ∀ K O K' O' k W W', (∀ b, K b → w.heap.size + 2 ≤ b) → I K O k W → Stp K O K' O' W W' → I K' O' k W')
    (hIt : ∀ K O k W W', (∀ b, K b → w.heap.size + 2 ≤ b) → w.heap.size + 2 ≤ W.heap.size → I K O k W → Turn w.heap.size W W' → I K O k W') (hIx : ∀ c W W', Ix c W → Below w.heap.size W W' → Ix c W')
    (hmem : ∀ K O k W, I K O k W → Mem W) (h0 : ∀ W, Below w.heap.size w W → W.heap.size = w.heap.size + 2 → I (fun _ => False) (fun _ => False) 0 W)
    (hround : ∀ (K O : Nat → Prop) (k : Nat) (x : α) (args : Array Value) (W : World), (∀ b, K b → w.heap.size + 2 ≤ b) → (∀ b, O b → K b) → w.heap.size + 2 ≤ W.heap.size → xs[k]? = some x → I K O k W → At K O x args W →
      assign.wpIn (Fence.wide.inRound (w.heap.size + 1)) (n - 1 - 1) P (Exit.then (fun a' W' => KeepL w.heap.size W W' ∧ KpO K W W' ∧ ∀ W2, Turn w.heap.size W' W2 → body.wpIn (Fence.wide.inRound (w.heap.size + 1)) (n - 1 - 1) P (rgPostO w.heap.size K (I K O) Ix k W2) a' W2) (fun _ _ _ => False))
        { tmps := (ps.zip args).foldl (fun t (p, v) => t.setIfInBounds p v) a.tmps, defers := [] } W)
    (hdone : ∀ (K O : Nat → Prop) (W : World), (∀ b, K b → w.heap.size + 2 ≤ b) → w.heap.size + 2 ≤ W.heap.size → I K O xs.length W → W.heap[w.heap.size]? = some (.deferred (some [])) → Q .normal { a with defers := { target := .collected w.heap.size, args := #[] } :: a.defers } W)
    (hstop : ∀ (c : Code) (W : World), Ix c W → W.heap[w.heap.size]? = some (.deferred (some [])) → c.wpIn Fence.wide n P Q { a with defers := { target := .collected w.heap.size, args := #[] } :: a.defers } W) :
    (Code.rangeFunc g ps assign body).wpIn Fence.wide n P Q a w := by
  refine wpIn_rangeFunc ?_
  intro fn hfn
  obtain ⟨rec, hrec⟩ : ∃ rec : LoopState → Option Code → Loop, rec = fun st pe => { state := st, pending := pe, fn, tmps := a.tmps, params := ps, assign, body, defers := w.heap.size } := ⟨_, rfl⟩
  obtain ⟨W1, hW1⟩ : ∃ W1, (w.alloc (.deferred (some []))).alloc (.loop (rec .ready none)) = W1 := ⟨_, rfl⟩
  have hL1 : W1.heap[w.heap.size + 1]? = some (.loop (rec .ready none)) := by
    rw [← hW1]; have := World.alloc_heap_new (w.alloc (.deferred (some []))) (.loop (rec .ready none)); rwa [World.size_alloc] at this
  have hK1 : W1.heap[w.heap.size]? = some (.deferred (some [])) := by
    rw [← hW1]; exact (Below.heap_alloc _ _ _ (by simp)).trans (World.alloc_heap_new w _)
  have hb1 : Below w.heap.size w W1 := by
    rw [← hW1]; exact ((Below.refl _ w).alloc (Nat.le_refl _) _).alloc (by simp) _
  have hs1 : W1.heap.size = w.heap.size + 2 := by rw [← hW1]; simp
  refine ⟨w.heap.size + 1, [{ target := .collected w.heap.size, args := #[] }], W1, { target := .fn (.func gf) lb, args := fst ++ #[.func (.yield (w.heap.size + 1)) #[] #[]] }, W1, gf,
    fst ++ #[.func (.yield (w.heap.size + 1)) #[] #[]] ++ lb, W1, ?_, ?_, ?_, ?_, fun h => by simp [Fence.wide] at h, ?_⟩
  · rw [← hW1, hrec]; exact run_enterLoop_outer _ _ _ _ _
  · simp only [resolve, hg]
    simp [go_sem]
  · intro f' hf'; trivial
  · simp [invoke, go_sem, eg]
  · have hno : ∀ {K O K' O' : Nat → Prop} {A C : World} {o : Obj} (k : Nat), (∀ b, K b → W1.heap.size ≤ b) → (∀ b, O b → K b) → k < w.heap.size + 2 → A.heap[k]? = some o → Stp K O K' O' A C → C.heap[k]? = some o := fun k hK hO hk hA hst =>
      (hst.same k (Array.getElem?_eq_some_iff.1 hA).1 (fun e => by have := hK k (hO k e); omega)).trans hA
    refine callsIn_wide.2 ((hit (w.heap.size + 1)
      (fun K O k W => (∀ b, O b → K b) ∧ I K O k W ∧ W.heap[w.heap.size + 1]? = some (.loop (rec .ready none)) ∧ W.heap[w.heap.size]? = some (.deferred (some [])))
      (fun W => ∃ c, Ix c W ∧ W.heap[w.heap.size + 1]? = some (.loop (rec .done (some c))) ∧ W.heap[w.heap.size]? = some (.deferred (some [])))
      W1 (fun K O k W h => hmem K O k W h.2.1)
      (fun K O K' O' k A C hK hs hst => ⟨hst.inO, hI K O K' O' k A C (by rw [hs1] at hK; exact hK) hs.2.1 hst, hno _ hK hs.1 (by omega) hs.2.2.1 hst, hno _ hK hs.1 (by omega) hs.2.2.2 hst⟩)
      (fun A C ⟨c, i1, i2, i3⟩ hb => ⟨c, hIx c A C i1 (hb.mono (by omega)), (hb.block _ (by omega)).trans i2, (hb.block _ (by omega)).trans i3⟩)
      ?_ ⟨fun b h => h, h0 W1 hb1 hs1, hL1, hK1⟩).mono ?_)
    · rintro K O k x args W hK hOK hx ⟨hO, hi, hl, hk⟩ hat
      rw [hs1] at hK
      have hWs : w.heap.size + 2 ≤ W.heap.size := by have := (Array.getElem?_eq_some_iff.1 hl).1; omega
      have hy := run_yield (P := P) (args := args) hl (by rw [hrec]; exact hps K O x args W hat)
      rw [hrec] at hy
      refine ⟨fn, _, assign, body, hy, fun m => ?_⟩
      have hround : RoundIn Fence.wide (n - 1 - 1) P (w.heap.size + 1) fn ((ps.zip args).foldl (fun t (p, v) => t.setIfInBounds p v) a.tmps) assign body W fun e W' =>
          (e = .returned (.bool true) ∧ ((∀ b, O b → K b) ∧ I K O (k + 1) W' ∧ W'.heap[w.heap.size + 1]? = some (.loop (rec .ready none)) ∧ W'.heap[w.heap.size]? = some (.deferred (some []))) ∧ KpO K W W') ∨
          (e = .returned (.bool false) ∧ (∃ c, Ix c W' ∧ W'.heap[w.heap.size + 1]? = some (.loop (rec .done (some c))) ∧ W'.heap[w.heap.size]? = some (.deferred (some []))) ∧ KpO K W W') := by
        refine roundIn_of_wpIn trivial (wpIn_mono (hround K O k x args W hK hOK hWs hx hi hat) ?_)
        rintro e' a' Wa hpa
        have hn : e' = .normal := by cases e' <;> first | rfl | exact (hpa : False).elim
        subst hn
        obtain ⟨hkfa, hkca, hbd⟩ := hpa
        have hla := hkfa.2.2.trans hl
        have hka := hkfa.2.1.trans hk
        have hlt : w.heap.size + 1 < Wa.heap.size := (Array.getElem?_eq_some_iff.1 hla).1
        have hnK : ∀ b, K b → b ≠ w.heap.size ∧ b ≠ w.heap.size + 1 := fun b hb => by have := hK b hb; omega
        refine ⟨_, run_beginRound hla (by rw [hrec]), ?_⟩
        have hl2 : (Wa.putObj (w.heap.size + 1) (.loop { rec .ready none with state := .busy })).heap[w.heap.size + 1]? = some (.loop { rec .ready none with state := .busy }) := World.putObj_heap_same hlt
        have hk2 : (Wa.putObj (w.heap.size + 1) (.loop { rec .ready none with state := .busy })).heap[w.heap.size]? = some (.deferred (some [])) := (World.putObj_heap_other (by omega)).trans hka
        have ht : Turn w.heap.size Wa (Wa.putObj (w.heap.size + 1) (.loop { rec .ready none with state := .busy })) := .putObj (.inr rfl)
        have hkc2 : KpO K W (Wa.putObj (w.heap.size + 1) (.loop { rec .ready none with state := .busy })) := hkca.trans (ht.kp hnK)
        refine wpIn_mono (hbd _ ht) ?_
        have fin : ∀ (jump : Option Code) (W3 : World), KeepL w.heap.size (Wa.putObj (w.heap.size + 1) (.loop { rec .ready none with state := .busy })) W3 →
            (Instr.endRound (w.heap.size + 1) jump).run P W3 = .ok (.bool jump.isNone) (W3.putObj (w.heap.size + 1) (.loop (rec (if jump.isNone then .ready else .done) jump))) ∧
            Turn w.heap.size W3 (W3.putObj (w.heap.size + 1) (.loop (rec (if jump.isNone then .ready else .done) jump))) ∧
            (W3.putObj (w.heap.size + 1) (.loop (rec (if jump.isNone then .ready else .done) jump))).heap[w.heap.size + 1]? = some (.loop (rec (if jump.isNone then .ready else .done) jump)) ∧
            (W3.putObj (w.heap.size + 1) (.loop (rec (if jump.isNone then .ready else .done) jump))).heap[w.heap.size]? = some (.deferred (some [])) := fun jump W3 hk3 => by
          have hl3 := hk3.2.2.trans hl2
          have := run_endRound (P := P) jump hl3
          rw [hrec] at this ⊢
          exact ⟨this, .putObj (.inr rfl), World.putObj_heap_same (Array.getElem?_eq_some_iff.1 hl3).1, (World.putObj_heap_other (by omega)).trans (hk3.2.1.trans hk2)⟩
        rintro e a3 W3 hp
        cases e with
        | normal =>
          obtain ⟨hk3, hc3, hi3⟩ := hp
          obtain ⟨hr, ht3, hl4, hk4⟩ := fin none W3 hk3
          have hs3 : w.heap.size + 2 ≤ W3.heap.size := by have := (Array.getElem?_eq_some_iff.1 (hk3.2.2.trans hl2)).1; omega
          exact ⟨_, _, hr, .inl ⟨rfl, ⟨hOK, hIt _ _ _ _ _ hK hs3 hi3 ht3, hl4, hk4⟩, (hkc2.trans hc3).trans (ht3.kp hnK)⟩⟩
        | ret =>
          obtain ⟨hk3, hc3, hi3⟩ := hp
          obtain ⟨hr, ht3, hl4, hk4⟩ := fin (some .ret) W3 hk3
          exact ⟨_, _, hr, .inr ⟨rfl, ⟨.ret, hIx _ _ _ hi3 (ht3.to_below (by have := (Array.getElem?_eq_some_iff.1 (hk3.2.2.trans hl2)).1; omega)), hl4, hk4⟩, (hkc2.trans hc3).trans (ht3.kp hnK)⟩⟩
        | exit id =>
          obtain ⟨hk3, hc3, hi3⟩ := hp
          obtain ⟨hr, ht3, hl4, hk4⟩ := fin (some (.exit id)) W3 hk3
          exact ⟨_, _, hr, .inr ⟨rfl, ⟨.exit id, hIx _ _ _ hi3 (ht3.to_below (by have := (Array.getElem?_eq_some_iff.1 (hk3.2.2.trans hl2)).1; omega)), hl4, hk4⟩, (hkc2.trans hc3).trans (ht3.kp hnK)⟩⟩
        | goto t =>
          obtain ⟨hk3, hc3, hi3⟩ := hp
          obtain ⟨hr, ht3, hl4, hk4⟩ := fin (some (.goto t)) W3 hk3
          exact ⟨_, _, hr, .inr ⟨rfl, ⟨.goto t, hIx _ _ _ hi3 (ht3.to_below (by have := (Array.getElem?_eq_some_iff.1 (hk3.2.2.trans hl2)).1; omega)), hl4, hk4⟩, (hkc2.trans hc3).trans (ht3.kp hnK)⟩⟩
        | panic ch => exact hp.elim
        | outgrown => exact hp.elim
      exact ⟨trivial, fun c cs _ => hround.2 c cs (room_wide _)⟩
    · rintro e W2 ⟨⟨v, rfl⟩, (⟨K, O, hK, hO, hi, hl, hk⟩ | ⟨c, hi, hl, hk⟩)⟩
      · rw [hs1] at hK
        have hs2 : w.heap.size + 2 ≤ W2.heap.size := by have := (Array.getElem?_eq_some_iff.1 hl).1; omega
        exact ⟨none, _, by have := run_endLoop (P := P) hl (by rw [hrec]; simp); rw [hrec] at this; exact this, hdone K O _ hK (by simp [World.putObj]; exact hs2) (hIt _ _ _ _ _ hK hs2 hi (.putObj (.inr rfl))) ((World.putObj_heap_other (by omega)).trans hk)⟩
      · exact ⟨some c, _, by have := run_endLoop (P := P) hl (by rw [hrec]; simp); rw [hrec] at this; exact this, hstop c _ (hIx c _ _ hi (Turn.to_below (.putObj (.inr rfl)) (by have := (Array.getElem?_eq_some_iff.1 hl).1; omega))) ((World.putObj_heap_other (by omega)).trans hk)⟩
/-- the end of a function behind one range: the marks go -/
theorem leave_turn {F : Fence} {n : Nat} {P : Program} {fn : Func} {R : Ending → World → Prop} {tmps : Array Value} {D : Nat} {W : World} {v : Value} (hK : W.heap[D]? = some (.deferred (some [])))
    (hr : ∀ W', Turn D W W' → (results fn tmps).run P W' = .ok v W') (hR : ∀ W', Turn D W W' → R (.returned v) W') :
    bodyPostM F n P fn R .ret { tmps := tmps, defers := [{ target := .collected D, args := #[] }] } W := by
  have ht : Turn D W (W.putObj D (.deferred none)) := .putObj (.inl rfl)
  refine ⟨by simp, .inl ⟨_, _, rfl, run_takeDeferred hK, ?_⟩⟩
  exact ⟨_, hr _ ht, hR _ ht⟩

end Go.Proofs.YtcbeiadimchknaaGreat

namespace Go.Proofs.YtcbeiadimchknaaGreat
open Go.RowKit
open Go.Sort (grow)
set_option linter.unusedVariables false
set_option linter.unusedSimpArgs false

/-- below n all is as it was, but for the blocks of B -/
structure Off (B : Nat → Prop) (n : Nat) (W W' : World) : Prop where
  os : W'.os = W.os
  tape : W'.tape = W.tape
  output : W'.output = W.output
  size : W.heap.size ≤ W'.heap.size
  same : ∀ k, k < n → ¬ B k → W'.heap[k]? = W.heap[k]?
section
variable {B K O K' O' : Nat → Prop} {n m D : Nat} {W W1 W2 w : World}
theorem Off.refl : Off B n W W := ⟨rfl, rfl, rfl, Nat.le_refl _, fun _ _ _ => rfl⟩
theorem Off.stp (h : Off B n W W1) (st : Stp K O K' O' W1 W2) (hO : ∀ b, O b → n ≤ b) (hn : n ≤ W.heap.size) : Off B n W W2 :=
  ⟨st.os.trans h.os, st.tape.trans h.tape, st.output.trans h.output, Nat.le_trans h.size st.size, fun k hk hb => (st.same k (by have := h.size; omega) fun e => by have := hO k e; omega).trans (h.same k hk hb)⟩
theorem Off.turn (h : Off B n W W1) (ht : Turn D W1 W2) (hD : n ≤ D) (hn : n ≤ W.heap.size) : Off B n W W2 :=
  ⟨ht.os.trans h.os, ht.tape.trans h.tape, ht.output.trans h.output, Nat.le_trans h.size ht.size, fun k hk hb => (ht.same k (by have := h.size; omega) (by omega) (by omega)).trans (h.same k hk hb)⟩
theorem Off.set (h : Off B n W W1) {p : Addr} (hp : B p.block ∨ n ≤ p.block) (u : Value) : Off B n W (W1.setCell p u) :=
  ⟨h.os, h.tape, h.output, by simpa using h.size, fun k hk hb => (Below.heap_setCell W1 p u k (fun e => by rcases hp with hp | hp; exact hb (by rw [e]; exact hp); omega)).trans (h.same k hk hb)⟩
theorem Off.then_below (h : Off B n W W1) (hb : Below m W1 W2) (hm : n ≤ m) : Off B n W W2 :=
  ⟨hb.os.trans h.os, hb.tape.trans h.tape, hb.output.trans h.output, Nat.le_trans h.size hb.size, fun k hk hB => (hb.block k (by omega)).trans (h.same k hk hB)⟩
theorem Off.trans (h : Off B n W W1) (k : Off B n W1 W2) : Off B n W W2 :=
  ⟨k.os.trans h.os, k.tape.trans h.tape, k.output.trans h.output, Nat.le_trans h.size k.size, fun j h1 h2 => (k.same j h1 h2).trans (h.same j h1 h2)⟩
theorem Off.drew (h : Off B n W W1) : Off B n W W1.drew := ⟨h.os, h.tape, h.output, h.size, h.same⟩
theorem Off.alloc (h : Off B n W W1) (hn : n ≤ W.heap.size) (o : Obj) : Off B n W (W1.alloc o) := h.then_below (.alloc (.refl _ _) (Nat.le_refl _) _) (Nat.le_trans hn h.size)
theorem Off.blk {g : Nat} {t : TypeId} {cs : Array Value} (h : Off B n W W1) (hb : Blk W g t cs) (h0 : g < n) (h1 : ¬ B g) : Blk W1 g t cs := (h.same g h0 h1).trans hb
theorem Off.cell {p : Addr} (h : Off B n W W1) (h0 : p.block < n) (h1 : ¬ B p.block) : W1.cell? p = W.cell? p := World.cell?_of_block (h.same _ h0 h1)
theorem Off.frozen {p : Addr} (h : Off B n W W1) (h0 : p.block < n) (h1 : ¬ B p.block) : W1.frozen? p = W.frozen? p := World.frozen?_of_block (h.same _ h0 h1)
theorem Off.below (h : Off B n W W1) (hB : ∀ b, B b → m ≤ b) (hm : m ≤ n) (hw : Below m w W) : Below m w W1 :=
  ⟨h.os.trans hw.os, h.tape.trans hw.tape, h.output.trans hw.output, Nat.le_trans hw.size h.size, fun k hk => (h.same k (by omega) (fun e => by have := hB k e; omega)).trans (hw.block k hk)⟩
theorem Off.to_below (h : Off B n W W1) (hB : ∀ b, B b → m ≤ b) (hm : m ≤ n) : Below m W W1 := h.below hB hm (.refl _ _)
theorem Off.of_below (h : Below n W W1) : Off B n W W1 := ⟨h.os, h.tape, h.output, h.size, fun k hk _ => h.block k hk⟩
theorem Off.grown {row : Option Nat} (h : Off B n W W1) (hg : W1.grownBy W2 row) (hB : ∀ g, row = some g → B g ∨ n ≤ g) (hn : n ≤ W.heap.size) : Off B n W W2 :=
  ⟨hg.os.trans h.os, hg.tape.trans h.tape, hg.output.trans h.output, Nat.le_trans h.size hg.size, fun k hk hb => (hg.block k (by have := h.size; omega) (fun e => by rcases hB k e.symm with e' | e'; exact hb e'; omega)).trans (h.same k hk hb)⟩
theorem Off.lt {g : Nat} (h : Off B n W W1) (hg : g < W.heap.size) : g < W1.heap.size := Nat.lt_of_lt_of_le hg h.size
end
def SetPost (J : (Nat → Prop) → (Nat → Prop) → Nat → World → Prop) (Jx : World → Prop) (B : Nat) (K : Nat → Prop) (k : Nat) (w : World) (e : Ending) (W' : World) : Prop :=
  (e = .returned (.bool true) ∧ (∃ K', (∀ b, K b → K' b) ∧ (∀ b, K' b → B ≤ b) ∧ J K' (fun _ => False) k W') ∧ KpO K w W') ∨ (e = .returned (.bool false) ∧ Jx W')
theorem Stp.below0 {K O : Nat → Prop} {W W' : World} (h : Below W.heap.size W W') (hK : ∀ b, O b → K b) : Stp K O K O W W' := ⟨h.os, h.tape, h.output, h.size, fun _ h => h, fun _ h => .inl h, fun _ h => .inl h, hK, fun k hk _ => h.block k hk⟩
theorem Stp.drop {K O : Nat → Prop} {W : World} : Stp K O K (fun _ => False) W W := ⟨rfl, rfl, rfl, Nat.le_refl _, fun _ h => h, fun _ h => .inl h, fun _ h => h.elim, fun _ h => h.elim, fun _ _ _ => rfl⟩
theorem KpO.then_set {K : Nat → Prop} {w W : World} {p : Addr} (h : KpO K w W) (hp : w.heap.size ≤ p.block) (u : Value) : KpO K w (W.setCell p u) := ⟨by simpa using h.1, fun b h1 h2 => (Below.heap_setCell W p u b (by omega)).trans (h.2 b h1 h2)⟩
theorem KpO.then_below {K : Nat → Prop} {w W W' : World} (h : KpO K w W) (hb : Below W.heap.size W W') : KpO K w W' := ⟨Nat.le_trans h.1 hb.size, fun b h1 h2 => (hb.block b (Nat.lt_of_lt_of_le h2 h.1)).trans (h.2 b h1 h2)⟩
section
variable {α β : Type} {L : List α} {f : α → List β} {t : Nat} {a : α}
theorem take_one (h : L[t]? = some a) : (L.take (t + 1)).flatMap f = (L.take t).flatMap f ++ f a := by
  rw [List.take_add_one, h, List.flatMap_append]; simp
theorem flat_seg (h : L[t]? = some a) {j : Nat} {x : β} (hx : (f a)[j]? = some x) : (L.flatMap f)[((L.take t).flatMap f).length + j]? = some x := by
  have hl := (List.getElem?_eq_some_iff.1 h).1
  have e : L.flatMap f = (L.take t).flatMap f ++ (f a ++ (L.drop (t + 1)).flatMap f) := by
    have h1 := (List.getElem?_eq_some_iff.1 h).2
    have h2 := List.drop_eq_getElem_cons hl
    rw [h1] at h2
    rw [← List.flatMap_cons, ← h2, ← List.flatMap_append, List.take_append_drop]
  have hj := (List.getElem?_eq_some_iff.1 hx).1
  rw [e, List.getElem?_append_right (by omega), Nat.add_sub_cancel_left, List.getElem?_append_left hj]
  exact hx
end
theorem KpO.chain {K K2 : Nat → Prop} {w W V W' : World} (h : KpO K w W) (hb : Below W.heap.size W V) (k : KpO K2 V W') (hs : ∀ b, K b → K2 b) : KpO K w W' :=
  ⟨Nat.le_trans h.1 (Nat.le_trans hb.size k.1), fun b h1 h2 => (k.2 b (hs b h1) (Nat.lt_of_lt_of_le h2 (Nat.le_trans h.1 hb.size))).trans ((h.then_below hb).2 b h1 h2)⟩
theorem KpO.of_lower {K : Nat → Prop} {w X W : World} (h : KpO K X W) (hb : Below w.heap.size w X) : KpO K w W :=
  ⟨Nat.le_trans hb.size h.1, fun b h1 h2 => (h.2 b h1 (Nat.lt_of_lt_of_le h2 hb.size)).trans (hb.block b h2)⟩
def KS (n m : Nat) (K : Nat → Prop) : Nat → Prop := fun b => K b ∨ (n ≤ b ∧ b < m)
def OS (B : Nat) (O : Nat → Prop) : Nat → Prop := fun b => O b ∨ b = B ∨ b = B + 1
theorem ks_ge {n m : Nat} {K : Nat → Prop} (h : ∀ b, K b → m ≤ b) (hnm : n ≤ m) : ∀ b, KS n m K b → n ≤ b := by
  rintro b (h1 | ⟨h1, h2⟩)
  · have := h b h1; omega
  · exact h1
theorem os_ks {n B m : Nat} {K O : Nat → Prop} (h : ∀ b, O b → K b) (h1 : n ≤ B) (h2 : B + 2 = m) : ∀ b, OS B O b → KS n m K b := by
  rintro b (h' | rfl | rfl)
  · exact .inl (h b h')
  · exact .inr ⟨h1, by omega⟩
  · exact .inr ⟨by omega, by omega⟩
theorem Stp.wide {n B m : Nat} {K O K' O' : Nat → Prop} {W1 W2 : World} (h : Stp K O K' O' W1 W2) (h1 : n ≤ B) (h2 : B + 2 = m) : Stp (KS n m K) (OS B O) (KS n m K') (OS B O') W1 W2 :=
  ⟨h.os, h.tape, h.output, h.size, fun b hb => hb.imp_left (h.sub b), fun b hb => hb.elim (fun e => (h.newK b e).imp_left .inl) fun e => .inl (.inr e), fun b hb => hb.elim (fun e => (h.newO b e).imp_left .inl) fun e => .inl (.inr e),
   os_ks h.inO h1 h2, fun k h3 h4 => h.same k h3 fun e => h4 (.inl e)⟩

end Go.Proofs.YtcbeiadimchknaaGreat
