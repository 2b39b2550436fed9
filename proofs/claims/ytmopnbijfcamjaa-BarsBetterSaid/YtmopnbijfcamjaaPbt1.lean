/- BarsBetter (layer 1): copies that lie between two sizes of the memory. -/
import Derived.Test.YtmopnbijfcamjaaPor1
namespace Go.Proofs.Ytmopnbijfcamjaa
open Go.RowKit
open Go.Sort (grow)
set_option linter.unusedVariables false

/-- a store that the call itself made, all of whose blocks lie from s to e -/
structure Cop (s e : Nat) (A1 : Option Addr) (c1 : Nat) (A2 : Option Addr) (c2 nb np : Nat) (bs : List Br) (ms : List Pm) (ps : List Pc) (W : World) : Prop where
  st : ∃ mid, OwnSt s mid A1 c1 A2 c2 nb np bs ms ps W ∧ mid ≤ e ∧ ∀ g, (Value.slice A2 np c2).ownBlock = some g → mid ≤ g
  u2 : ∀ g, (Value.slice A2 np c2).ownBlock = some g → g < e
  u3 : ∀ k, k < np → ∀ a, (pmAt ms k).h.A = some a → s ≤ a.block ∧ a.block < e
  he : e ≤ W.heap.size
section
variable {s e : Nat} {A1 : Option Addr} {c1 : Nat} {A2 : Option Addr} {c2 nb np : Nat} {bs : List Br} {ms : List Pm} {ps : List Pc} {W W' : World}
theorem Cop.of {mid : Nat} (h : OwnSt s mid A1 c1 A2 c2 nb np bs ms ps W) : Cop s W.heap.size A1 c1 A2 c2 nb np bs ms ps W :=
  ⟨⟨mid, h, h.mh, fun g hg => (h.pcs.own.lt g hg).1⟩, fun g hg => (h.pcs.own.lt g hg).2, fun k hk a ha => by
    have h1 := (h.pcs.inn k hk).2 a ha
    have h2 := h.le
    exact ⟨by omega, h1.2.2⟩, Nat.le_refl _⟩
theorem Cop.later (h : Cop s e A1 c1 A2 c2 nb np bs ms ps W) (hb : Below W.heap.size W W') : Cop s e A1 c1 A2 c2 nb np bs ms ps W' := by
  obtain ⟨mid, h1, h2, h3⟩ := h.st
  exact ⟨⟨mid, h1.later hb, h2, h3⟩, h.u2, h.u3, Nat.le_trans h.he hb.size⟩
theorem Cop.far (h : Cop s e A1 c1 A2 c2 nb np bs ms ps W) {p : Addr} (hp : p.block < s ∨ e ≤ p.block) (u : Value) : Cop s e A1 c1 A2 c2 nb np bs ms ps (W.setCell p u) := by
  obtain ⟨mid, h1, h2, h3⟩ := h.st
  have h5 := h1.le
  refine ⟨⟨mid, ⟨own_set h1.bar (fun g hg => ?_), h1.bl, h1.bm, h1.le, by simpa using h1.mh, h1.pcs.other (fun g hg => ?_) (fun k hk a ha => ?_) u⟩, h2, h3⟩, h.u2, h.u3, by simpa using h.he⟩
  · have a1 := h1.bm g hg
    have a2 := (h1.bar.lt g hg).1
    omega
  · have a1 := h.u2 g hg
    have a2 := h3 g hg
    omega
  · have a1 := h.u3 k hk a ha
    omega
theorem Cop.read (h : Cop s e A1 c1 A2 c2 nb np bs ms ps W) : BrsAt W A1 nb bs ∧ PcsAt W A2 np ms ps := by
  obtain ⟨mid, h1, -, -⟩ := h.st
  exact h1.st
end
/-- the heats of one piece stored -/
theorem OwnPs.setHs {base g c p n : Nat} {w : World} {ms : List Pm} {ps : List Pc} {x : Hd} {q : List Int} (h : OwnPs base w (.slice (some ⟨g, 0, none⟩) n c) n ms ps) (hp : p < n) (hx : IntsAt w x.A x.n q) (hne : ∀ a, x.A = some a → base ≤ a.block ∧ g ≠ a.block ∧ a.block < w.heap.size) :
    OwnPs base (w.setCell ⟨g, p * 2 + 1, none⟩ (.slice x.A x.n x.c)) (.slice (some ⟨g, 0, none⟩) n c) n (ms.set p ⟨(pmAt ms p).long, x⟩) (ps.set p ⟨(pcAt ps p).long, q⟩) := by
  have hml := h.ml
  have hpl := h.pl
  have keep : ∀ (A : Option Addr) (m : Nat) (xs : List Int), IntsAt w A m xs → (∀ a, A = some a → g ≠ a.block) → IntsAt (w.setCell ⟨g, p * 2 + 1, none⟩ (.slice x.A x.n x.c)) A m xs := by
    intro A m xs hi hn
    refine ⟨hi.1, fun h0 => ?_⟩
    obtain ⟨g', off, e, hg, hc⟩ := hi.2 h0
    have k1 := hn _ e
    have k2 : ∀ o o', (⟨g, o, none⟩ : Addr) ≠ ⟨g', o', none⟩ := fun o o' e' => k1 (congrArg Addr.block e')
    exact ⟨g', off, e, by simpa using hg, fun j hj i u hu => (World.cell?_setCell_other _ _ _ _ (fun e' => by first | exact k2 _ _ e' | exact k2 _ _ e'.symm)).trans (hc j hj i u hu)⟩
  refine ⟨?_, by simp [hml], by simp [hpl], fun k hk => ?_, fun k hk => ?_⟩
  · have a2 := (h.own.stored (p * 2 + 1) (.slice x.A x.n x.c)).1
    rw [flat_set encP_len ms p 1 ⟨(pmAt ms p).long, x⟩ (⟨0, ⟨none, 0, 0⟩⟩ : Pm) _ (by omega) (by omega) rfl] at a2
    exact a2
  · rw [pmAt_set (by omega), pcAt_set (by omega)]
    split
    · exact h.lg p hp
    · exact h.lg k hk
  · rw [pmAt_set (by omega), pcAt_set (by omega)]
    split
    · exact ⟨keep _ _ _ hx (fun a ha => (hne a ha).2.1), fun a ha => ⟨(hne a ha).1, fun e => (hne a ha).2.1 (Option.some.inj e), by simpa using (hne a ha).2.2⟩⟩
    · obtain ⟨i1, i2⟩ := h.inn k hk
      exact ⟨keep _ _ _ i1 (fun a ha e => (i2 a ha).2.1 (by rw [e]; rfl)), fun a ha => ⟨(i2 a ha).1, (i2 a ha).2.1, by simpa using (i2 a ha).2.2⟩⟩
/-- what two copies in two boxes leave behind -/
structure TwoCop (X0 g4 g5 s1 e1 s2 e2 : Nat) (A1 : Option Addr) (c1 : Nat) (A2 : Option Addr) (c2 : Nat) (A3 : Option Addr) (c3 : Nat) (A4 : Option Addr) (c4 nb np : Nat) (kf wrg : Int) (bs : List Br) (ms1 ms2 : List Pm) (ps : List Pc) (W : World) : Prop where
  k4 : Blk W g4 25 #[.slice A1 nb c1, .int .i64 kf, .slice A2 np c2, .int .i64 wrg]
  k5 : Blk W g5 25 #[.slice A3 nb c3, .int .i64 kf, .slice A4 np c4, .int .i64 wrg]
  p1 : Cop s1 e1 A1 c1 A2 c2 nb np bs ms1 ps W
  p2 : Cop s2 e2 A3 c3 A4 c4 nb np bs ms2 ps W
  ne : g4 ≠ g5
  x1 : X0 ≤ s1 ∧ s1 ≤ e1 ∧ e1 ≤ s2 ∧ s2 ≤ e2 ∧ X0 ≤ g4 ∧ X0 ≤ g5
  y4 : g4 < s1 ∨ (e1 ≤ g4 ∧ g4 < s2) ∨ e2 ≤ g4
  y5 : g5 < s1 ∨ (e1 ≤ g5 ∧ g5 < s2) ∨ e2 ≤ g5
/-- where the ways meet -/
def CutTwo (X : World) (nb np : Nat) (kf wrg : Int) (bs : List Br) (ps : List Pc) (a b : Value) (wx : World) : Prop :=
  ∃ g4 g5 s1 e1 s2 e2 A1 c1 A2 c2 A3 c3 A4 c4 ms1 ms2, a = .pointer (some ⟨g4, 0, none⟩) ∧ b = .pointer (some ⟨g5, 0, none⟩) ∧ TwoCop X.heap.size g4 g5 s1 e1 s2 e2 A1 c1 A2 c2 A3 c3 A4 c4 nb np kf wrg bs ms1 ms2 ps wx ∧ Below X.heap.size X wx
section
variable {P : Program} {ops : Array Oper} {Q : Exit → Act → World → Prop} {S : World → Prop} {m : Nat}
/-- three may come up -/
theorem wpAnyL_three {i j l : Nat} {o1 o2 o3 : Oper} {fuel : Nat} {listed : Array Bool} {a : Act} {w : World} (hr : Region.ready .any ops listed = [i, j, l]) (ho1 : ops[i]? = some o1) (ho2 : ops[j]? = some o2) (ho3 : ops[l]? = some o3)
    (h1 : ∀ K : Act → World → Prop, Shut (∀ a' w', (i ≠ m → S w') → ((i ≠ m → S w') → wpAnyL P ops Q S m fuel (listed.setIfInBounds i true) a' w') → K a' w') → if Region.wanted o1 (yielded ops a.tmps) = true then Oper.wp P o1 a w K Q else K (a.put o1.dst undef) w)
    (h2 : ∀ K : Act → World → Prop, Shut (∀ a' w', (j ≠ m → S w') → ((j ≠ m → S w') → wpAnyL P ops Q S m fuel (listed.setIfInBounds j true) a' w') → K a' w') → if Region.wanted o2 (yielded ops a.tmps) = true then Oper.wp P o2 a w K Q else K (a.put o2.dst undef) w)
    (h3 : ∀ K : Act → World → Prop, Shut (∀ a' w', (l ≠ m → S w') → ((l ≠ m → S w') → wpAnyL P ops Q S m fuel (listed.setIfInBounds l true) a' w') → K a' w') → if Region.wanted o3 (yielded ops a.tmps) = true then Oper.wp P o3 a w K Q else K (a.put o3.dst undef) w) :
    wpAnyL P ops Q S m (fuel + 1) listed a w := by
  refine ⟨fun h0 => (by rw [hr] at h0; cases h0), fun k hk => ?_⟩
  rw [hr] at hk
  rcases List.mem_cons.1 hk with rfl | hk
  · exact wpOp_step ho1 fun K' hK => h1 K' fun a' w' h1 h2 => hK a' w' ⟨h1, h2 h1⟩
  rcases List.mem_cons.1 hk with rfl | hk
  · exact wpOp_step ho2 fun K' hK => h2 K' fun a' w' h1 h2 => hK a' w' ⟨h1, h2 h1⟩
  · obtain rfl : k = l := by simpa using hk
    exact wpOp_step ho3 fun K' hK => h3 K' fun a' w' h1 h2 => hK a' w' ⟨h1, h2 h1⟩
end

end Go.Proofs.Ytmopnbijfcamjaa
