/- The copied cable, held while its need is set (layer 7). -/
import Derived.Test.YthjjakhmbgnnnaaCp7
namespace Go.Proofs.Ythjjakhmbgnnnaa
open Go.RowKit
open Go.Sort (grow)
set_option linter.unusedVariables false

/-- the copied cable with a need of its own -/
structure OMid (X : World) (g n : Nat) (A1 : Option Addr) (k1 : Nat) (q : Cb) (v : Int) (ls : List Sp) (base : Nat) (V : World) : Prop where
  bel : Below X.heap.size X V
  blk : Blk V g 24 #[.slice A1 n k1, .int .i64 v, .int .i64 q.gap, .int .i64 q.doubt, .int .i64 q.joins, .int .i64 q.least]
  own : V.ownsRow base 35 2 (.slice A1 n k1) n (ls.flatMap encS)
  ne : ∀ k, (Value.slice A1 n k1).ownBlock = some k → k ≠ g
  hg : X.heap.size ≤ g
theorem OMid.later {X : World} {g n : Nat} {A1 : Option Addr} {k1 : Nat} {q : Cb} {v : Int} {ls : List Sp} {base : Nat} {V V' : World} (h : OMid X g n A1 k1 q v ls base V) (hb : Below V.heap.size V V') : OMid X g n A1 k1 q v ls base V' :=
  ⟨h.bel.trans (hb.mono h.bel.size), h.blk.below hb h.blk.lt, own_below h.own hb, h.ne, h.hg⟩
theorem OMid.set {X : World} {g n : Nat} {A1 : Option Addr} {k1 : Nat} {q : Cb} {v : Int} {ls : List Sp} {base : Nat} {V : World} (h : OMid X g n A1 k1 q v ls base V) (v' : Int) : OMid X g n A1 k1 q v' ls base (V.setCell ⟨g, 1, none⟩ (.int .i64 v')) :=
  ⟨h.bel.setCell h.hg _, by have := h.blk.set_ 1 (.int .i64 v'); simpa using this, own_set h.own (fun k hk => h.ne k hk), h.ne, h.hg⟩
theorem OMid.append {X : World} {g n : Nat} {A1 : Option Addr} {k1 : Nat} {q : Cb} {v : Int} {ls : List Sp} {base : Nat} {V w8 : World} {A2 : Option Addr} {k2 : Nat} {s : Sp} {o : Obj} (h : OMid X g n A1 k1 q v ls base V) (hX : X.heap.size ≤ base) (hbV : base ≤ V.heap.size)
    (ho : w8.ownsRow base 35 2 (.slice A2 (n + 1) k2) (n + 1) ((ls ++ [s]).flatMap encS)) (hg : (V.alloc o).grownBy w8 (Value.slice A1 n k1).ownBlock)
    (ha : (Value.slice A2 (n + 1) k2).ownBlock = (Value.slice A1 n k1).ownBlock ∨ (Value.slice A2 (n + 1) k2).ownBlock = some (V.alloc o).heap.size) :
    OMid X g (n + 1) A2 k2 q v (ls ++ [s]) base (w8.setCell ⟨g, 0, none⟩ (.slice A2 (n + 1) k2)) ∧ Below X.heap.size X w8 ∧ (∀ i, w8.cell? ⟨g, i, none⟩ = #[Value.slice A1 n k1, .int .i64 v, .int .i64 q.gap, .int .i64 q.doubt, .int .i64 q.joins, .int .i64 q.least][i]?) ∧ (∀ i, w8.frozen? ⟨g, i, none⟩ = false) ∧ g < w8.heap.size := by
  have hb : Below X.heap.size X w8 := Below.grown (h.bel.alloc h.bel.size _) hg (by simp; exact Nat.le_trans h.bel.size (Nat.le_succ _)) fun k hk => Nat.le_trans hX (own_ge h.own k hk)
  have hk : Blk w8 g 24 #[.slice A1 n k1, .int .i64 v, .int .i64 q.gap, .int .i64 q.doubt, .int .i64 q.joins, .int .i64 q.least] := (h.blk.alloc _).grown hg fun e => h.ne _ e.symm rfl
  have hne : ∀ k, (Value.slice A2 (n + 1) k2).ownBlock = some k → k ≠ g := fun k hk' => by
    rcases ha with e | e
    · exact h.ne k (e.symm.trans hk')
    · have h1 := h.blk.lt
      rw [hk'] at e
      have h2 := Option.some.inj e
      simp at h2
      omega
  exact ⟨⟨hb.setCell h.hg _, by have := hk.set_ 0 (.slice A2 (n + 1) k2); simpa using this, own_set ho fun k hk' => hne k hk', hne, h.hg⟩, hb, hk.cell, hk.frozen, hk.lt⟩

end Go.Proofs.Ythjjakhmbgnnnaa
