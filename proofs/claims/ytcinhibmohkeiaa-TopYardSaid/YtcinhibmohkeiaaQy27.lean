/- Worlds that agree below a bound but for some blocks of one's own (for loops over iterators). -/
import Derived.Test.YtcinhibmohkeiaaQy20
namespace Go.Proofs.Ytcinhibmohkeiaa
open Go.RowKit
open Go.Sort (grow)
set_option linter.unusedVariables false
set_option linter.unusedSimpArgs false

/-- below n all is as it was, but for the blocks of B -/
structure Off (B : Nat → Prop) (n : Nat) (W W' : World) : Prop where
  os : W'.os = W.os
  tape : W'.tape = W.tape
  output : W'.output = W.output
  size : W.heap.size ≤ W'.heap.size
  same : ∀ k, k < n → ¬ B k → W'.heap[k]? = W.heap[k]?
section
variable {B K O K' O' : Nat → Prop} {n m D : Nat} {W W1 W2 w : World}
theorem Off.refl : Off B n W W := ⟨rfl, rfl, rfl, Nat.le_refl _, fun _ _ _ => rfl⟩
theorem Off.stp (h : Off B n W W1) (st : Stp K O K' O' W1 W2) (hO : ∀ b, O b → n ≤ b) (hn : n ≤ W.heap.size) : Off B n W W2 :=
  ⟨st.os.trans h.os, st.tape.trans h.tape, st.output.trans h.output, Nat.le_trans h.size st.size, fun k hk hb => (st.same k (by have := h.size; omega) fun e => by have := hO k e; omega).trans (h.same k hk hb)⟩
theorem Off.turn (h : Off B n W W1) (ht : Turn D W1 W2) (hD : n ≤ D) (hn : n ≤ W.heap.size) : Off B n W W2 :=
  ⟨ht.os.trans h.os, ht.tape.trans h.tape, ht.output.trans h.output, Nat.le_trans h.size ht.size, fun k hk hb => (ht.same k (by have := h.size; omega) (by omega) (by omega)).trans (h.same k hk hb)⟩
theorem Off.set (h : Off B n W W1) {p : Addr} (hp : B p.block ∨ n ≤ p.block) (u : Value) : Off B n W (W1.setCell p u) :=
  ⟨h.os, h.tape, h.output, by simpa using h.size, fun k hk hb => (Below.heap_setCell W1 p u k (fun e => by rcases hp with hp | hp; exact hb (by rw [e]; exact hp); omega)).trans (h.same k hk hb)⟩
theorem Off.then_below (h : Off B n W W1) (hb : Below m W1 W2) (hm : n ≤ m) : Off B n W W2 :=
  ⟨hb.os.trans h.os, hb.tape.trans h.tape, hb.output.trans h.output, Nat.le_trans h.size hb.size, fun k hk hB => (hb.block k (by omega)).trans (h.same k hk hB)⟩
theorem Off.trans (h : Off B n W W1) (k : Off B n W1 W2) : Off B n W W2 :=
  ⟨k.os.trans h.os, k.tape.trans h.tape, k.output.trans h.output, Nat.le_trans h.size k.size, fun j h1 h2 => (k.same j h1 h2).trans (h.same j h1 h2)⟩
theorem Off.drew (h : Off B n W W1) : Off B n W W1.drew := ⟨h.os, h.tape, h.output, h.size, h.same⟩
theorem Off.alloc (h : Off B n W W1) (hn : n ≤ W.heap.size) (o : Obj) : Off B n W (W1.alloc o) := h.then_below (.alloc (.refl _ _) (Nat.le_refl _) _) (Nat.le_trans hn h.size)
theorem Off.blk {g : Nat} {t : TypeId} {cs : Array Value} (h : Off B n W W1) (hb : Blk W g t cs) (h0 : g < n) (h1 : ¬ B g) : Blk W1 g t cs := (h.same g h0 h1).trans hb
theorem Off.cell {p : Addr} (h : Off B n W W1) (h0 : p.block < n) (h1 : ¬ B p.block) : W1.cell? p = W.cell? p := World.cell?_of_block (h.same _ h0 h1)
theorem Off.frozen {p : Addr} (h : Off B n W W1) (h0 : p.block < n) (h1 : ¬ B p.block) : W1.frozen? p = W.frozen? p := World.frozen?_of_block (h.same _ h0 h1)
theorem Off.below (h : Off B n W W1) (hB : ∀ b, B b → m ≤ b) (hm : m ≤ n) (hw : Below m w W) : Below m w W1 :=
  ⟨h.os.trans hw.os, h.tape.trans hw.tape, h.output.trans hw.output, Nat.le_trans hw.size h.size, fun k hk => (h.same k (by omega) (fun e => by have := hB k e; omega)).trans (hw.block k hk)⟩
theorem Off.to_below (h : Off B n W W1) (hB : ∀ b, B b → m ≤ b) (hm : m ≤ n) : Below m W W1 := h.below hB hm (.refl _ _)
theorem Off.of_below (h : Below n W W1) : Off B n W W1 := ⟨h.os, h.tape, h.output, h.size, fun k hk _ => h.block k hk⟩
theorem Off.grown {row : Option Nat} (h : Off B n W W1) (hg : W1.grownBy W2 row) (hB : ∀ g, row = some g → B g ∨ n ≤ g) (hn : n ≤ W.heap.size) : Off B n W W2 :=
  ⟨hg.os.trans h.os, hg.tape.trans h.tape, hg.output.trans h.output, Nat.le_trans h.size hg.size, fun k hk hb => (hg.block k (by have := h.size; omega) (fun e => by rcases hB k e.symm with e' | e'; exact hb e'; omega)).trans (h.same k hk hb)⟩
theorem Off.lt {g : Nat} (h : Off B n W W1) (hg : g < W.heap.size) : g < W1.heap.size := Nat.lt_of_lt_of_le hg h.size
end
def SetPost (J : (Nat → Prop) → (Nat → Prop) → Nat → World → Prop) (Jx : World → Prop) (B : Nat) (K : Nat → Prop) (k : Nat) (w : World) (e : Ending) (W' : World) : Prop :=
  (e = .returned (.bool true) ∧ (∃ K', (∀ b, K b → K' b) ∧ (∀ b, K' b → B ≤ b) ∧ J K' (fun _ => False) k W') ∧ KpO K w W') ∨ (e = .returned (.bool false) ∧ Jx W')
theorem Stp.below0 {K O : Nat → Prop} {W W' : World} (h : Below W.heap.size W W') (hK : ∀ b, O b → K b) : Stp K O K O W W' := ⟨h.os, h.tape, h.output, h.size, fun _ h => h, fun _ h => .inl h, fun _ h => .inl h, hK, fun k hk _ => h.block k hk⟩
theorem Stp.drop {K O : Nat → Prop} {W : World} : Stp K O K (fun _ => False) W W := ⟨rfl, rfl, rfl, Nat.le_refl _, fun _ h => h, fun _ h => .inl h, fun _ h => h.elim, fun _ h => h.elim, fun _ _ _ => rfl⟩
theorem KpO.then_set {K : Nat → Prop} {w W : World} {p : Addr} (h : KpO K w W) (hp : w.heap.size ≤ p.block) (u : Value) : KpO K w (W.setCell p u) := ⟨by simpa using h.1, fun b h1 h2 => (Below.heap_setCell W p u b (by omega)).trans (h.2 b h1 h2)⟩
theorem KpO.then_below {K : Nat → Prop} {w W W' : World} (h : KpO K w W) (hb : Below W.heap.size W W') : KpO K w W' := ⟨Nat.le_trans h.1 hb.size, fun b h1 h2 => (hb.block b (Nat.lt_of_lt_of_le h2 h.1)).trans (h.2 b h1 h2)⟩
section
variable {α β : Type} {L : List α} {f : α → List β} {t : Nat} {a : α}
theorem take_one (h : L[t]? = some a) : (L.take (t + 1)).flatMap f = (L.take t).flatMap f ++ f a := by
  rw [List.take_add_one, h, List.flatMap_append]; simp
theorem flat_seg (h : L[t]? = some a) {j : Nat} {x : β} (hx : (f a)[j]? = some x) : (L.flatMap f)[((L.take t).flatMap f).length + j]? = some x := by
  have hl := (List.getElem?_eq_some_iff.1 h).1
  have e : L.flatMap f = (L.take t).flatMap f ++ (f a ++ (L.drop (t + 1)).flatMap f) := by
    have h1 := (List.getElem?_eq_some_iff.1 h).2
    have h2 := List.drop_eq_getElem_cons hl
    rw [h1] at h2
    rw [← List.flatMap_cons, ← h2, ← List.flatMap_append, List.take_append_drop]
  have hj := (List.getElem?_eq_some_iff.1 hx).1
  rw [e, List.getElem?_append_right (by omega), Nat.add_sub_cancel_left, List.getElem?_append_left hj]
  exact hx
end
theorem KpO.chain {K K2 : Nat → Prop} {w W V W' : World} (h : KpO K w W) (hb : Below W.heap.size W V) (k : KpO K2 V W') (hs : ∀ b, K b → K2 b) : KpO K w W' :=
  ⟨Nat.le_trans h.1 (Nat.le_trans hb.size k.1), fun b h1 h2 => (k.2 b (hs b h1) (Nat.lt_of_lt_of_le h2 (Nat.le_trans h.1 hb.size))).trans ((h.then_below hb).2 b h1 h2)⟩
theorem KpO.of_lower {K : Nat → Prop} {w X W : World} (h : KpO K X W) (hb : Below w.heap.size w X) : KpO K w W :=
  ⟨Nat.le_trans hb.size h.1, fun b h1 h2 => (h.2 b h1 (Nat.lt_of_lt_of_le h2 hb.size)).trans (hb.block b h2)⟩
def KS (n m : Nat) (K : Nat → Prop) : Nat → Prop := fun b => K b ∨ (n ≤ b ∧ b < m)
def OS (B : Nat) (O : Nat → Prop) : Nat → Prop := fun b => O b ∨ b = B ∨ b = B + 1
theorem ks_ge {n m : Nat} {K : Nat → Prop} (h : ∀ b, K b → m ≤ b) (hnm : n ≤ m) : ∀ b, KS n m K b → n ≤ b := by
  rintro b (h1 | ⟨h1, h2⟩)
  · have := h b h1; omega
  · exact h1
theorem os_ks {n B m : Nat} {K O : Nat → Prop} (h : ∀ b, O b → K b) (h1 : n ≤ B) (h2 : B + 2 = m) : ∀ b, OS B O b → KS n m K b := by
  rintro b (h' | rfl | rfl)
  · exact .inl (h b h')
  · exact .inr ⟨h1, by omega⟩
  · exact .inr ⟨by omega, by omega⟩
theorem Stp.wide {n B m : Nat} {K O K' O' : Nat → Prop} {W1 W2 : World} (h : Stp K O K' O' W1 W2) (h1 : n ≤ B) (h2 : B + 2 = m) : Stp (KS n m K) (OS B O) (KS n m K') (OS B O') W1 W2 :=
  ⟨h.os, h.tape, h.output, h.size, fun b hb => hb.imp_left (h.sub b), fun b hb => hb.elim (fun e => (h.newK b e).imp_left .inl) fun e => .inl (.inr e), fun b hb => hb.elim (fun e => (h.newO b e).imp_left .inl) fun e => .inl (.inr e),
   os_ks h.inO h1 h2, fun k h3 h4 => h.same k h3 fun e => h4 (.inl e)⟩

end Go.Proofs.Ytcinhibmohkeiaa
