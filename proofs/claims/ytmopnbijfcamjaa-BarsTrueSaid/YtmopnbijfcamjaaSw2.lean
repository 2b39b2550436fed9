/- A sawing while one more piece is laid (layer 1). -/
import Derived.Test.YtmopnbijfcamjaaSw1
namespace Go.Proofs.Ytmopnbijfcamjaa
open Go.RowKit
open Go.Sort (grow)
set_option linter.unusedVariables false

theorem own_int_set {w : World} {base : Nat} {e : TypeId} {g n c k : Nat} {xs : List Int} (h : w.ownsRow base e 1 (.slice (some ⟨g, 0, none⟩) n c) n (xs.flatMap encI)) (hl : xs.length = n) (hk : k < n) (v : Int) :
    (w.setCell ⟨g, k, none⟩ (.int .i64 v)).ownsRow base e 1 (.slice (some ⟨g, 0, none⟩) n c) n ((xs.set k v).flatMap encI) := by
  have a1 := (h.stored (k * 1 + 0) (.int .i64 v)).1
  rw [flat_set encI_len xs k 0 v (0 : Int) _ (by omega) (by omega) rfl] at a1
  simpa using a1
theorem own_int_get {w : World} {base : Nat} {e : TypeId} {g n c k : Nat} {xs : List Int} (h : w.ownsRow base e 1 (.slice (some ⟨g, 0, none⟩) n c) n (xs.flatMap encI)) (hl : xs.length = n) (hk : k < n) :
    w.cell? ⟨g, k, none⟩ = some (.int .i64 (iAt xs k)) := by
  have h1 := (h.cellAt (k * 1 + 0) (by omega)).trans (flat_get (d := (0 : Int)) encI_len xs k 0 (by omega) (by omega))
  simpa [encI, iAt] using h1
/-- the sawing with one more piece, under way; W0: the world ahead -/
structure Mid (b ob nb g1 c1 g2 c2 g3 c3 : Nat) (old : Array Value) (of rests cuts : List Int) (wr : Int) (W0 W : World) : Prop where
  blk : Blk W b 81 #[.slice (some ⟨g1, 0, none⟩) of.length c1, .slice (some ⟨g2, 0, none⟩) nb c2, .slice (some ⟨g3, 0, none⟩) nb c3, .int .i64 wr]
  obk : Blk W ob 81 old
  o1 : W.ownsRow W0.heap.size 3 1 (.slice (some ⟨g1, 0, none⟩) of.length c1) of.length (of.flatMap encI)
  o2 : W.ownsRow W0.heap.size 3 1 (.slice (some ⟨g2, 0, none⟩) nb c2) nb (rests.flatMap encI)
  o3 : W.ownsRow W0.heap.size 3 1 (.slice (some ⟨g3, 0, none⟩) nb c3) nb (cuts.flatMap encI)
  rl : rests.length = nb
  cl : cuts.length = nb
  lt : b < W0.heap.size
  lo : W0.heap.size ≤ ob
  ne : g1 ≠ g2 ∧ g1 ≠ g3 ∧ g2 ≠ g3 ∧ g1 ≠ ob ∧ g2 ≠ ob ∧ g3 ≠ ob
  bt : But b W0 W
section
variable {b ob nb g1 c1 g2 c2 g3 c3 : Nat} {old : Array Value} {of rests cuts : List Int} {wr : Int} {W0 W W' : World}
theorem Mid.ge (h : Mid b ob nb g1 c1 g2 c2 g3 c3 old of rests cuts wr W0 W) : W0.heap.size ≤ g1 ∧ W0.heap.size ≤ g2 ∧ W0.heap.size ≤ g3 := ⟨(own_addr h.o1 _ rfl).1, (own_addr h.o2 _ rfl).1, (own_addr h.o3 _ rfl).1⟩
theorem Mid.later (h : Mid b ob nb g1 c1 g2 c2 g3 c3 old of rests cuts wr W0 W) (hb : Below W.heap.size W W') : Mid b ob nb g1 c1 g2 c2 g3 c3 old of rests cuts wr W0 W' :=
  ⟨h.blk.below hb h.blk.lt, h.obk.below hb h.obk.lt, own_below h.o1 hb, own_below h.o2 hb, own_below h.o3 hb, h.rl, h.cl, h.lt, h.lo, h.ne, h.bt.trans (.of_below hb)⟩
theorem But.far {p : Addr} {u : Value} (h : But b W0 W) (hp : W0.heap.size ≤ p.block) : But b W0 (W.setCell p u) :=
  ⟨h.os, h.tape, h.output, by simpa using h.size, fun k h1 h2 => (Below.heap_setCell W p u k (by omega)).trans (h.same k h1 h2)⟩
theorem Mid.set2 (h : Mid b ob nb g1 c1 g2 c2 g3 c3 old of rests cuts wr W0 W) {k : Nat} (hk : k < nb) (v : Int) : Mid b ob nb g1 c1 g2 c2 g3 c3 old of (rests.set k v) cuts wr W0 (W.setCell ⟨g2, k, none⟩ (.int .i64 v)) := by
  obtain ⟨n1, n2, n3, n4, n5, n6⟩ := h.ne
  obtain ⟨e1, e2, e3⟩ := h.ge
  have hl := h.lt
  exact ⟨h.blk.far (by show b ≠ g2; omega) _, h.obk.far (fun e => n5 e.symm) _, own_set h.o1 (fun k hk => by cases hk; exact n1), own_int_set h.o2 h.rl hk v, own_set h.o3 (fun k hk => by cases hk; exact n3.symm), by rw [List.length_set]; exact h.rl, h.cl, h.lt, h.lo, h.ne, h.bt.far e2⟩
theorem Mid.set3 (h : Mid b ob nb g1 c1 g2 c2 g3 c3 old of rests cuts wr W0 W) {k : Nat} (hk : k < nb) (v : Int) : Mid b ob nb g1 c1 g2 c2 g3 c3 old of rests (cuts.set k v) wr W0 (W.setCell ⟨g3, k, none⟩ (.int .i64 v)) := by
  obtain ⟨n1, n2, n3, n4, n5, n6⟩ := h.ne
  obtain ⟨e1, e2, e3⟩ := h.ge
  have hl := h.lt
  exact ⟨h.blk.far (by show b ≠ g3; omega) _, h.obk.far (fun e => n6 e.symm) _, own_set h.o1 (fun k hk => by cases hk; exact n2), own_set h.o2 (fun k hk => by cases hk; exact n3), own_int_set h.o3 h.cl hk v, h.rl, by rw [List.length_set]; exact h.cl, h.lt, h.lo, h.ne, h.bt.far e3⟩
theorem Mid.setw (h : Mid b ob nb g1 c1 g2 c2 g3 c3 old of rests cuts wr W0 W) (v : Int) : Mid b ob nb g1 c1 g2 c2 g3 c3 old of rests cuts v W0 (W.setCell ⟨b, 3, none⟩ (.int .i64 v)) := by
  obtain ⟨e1, e2, e3⟩ := h.ge
  have hl := h.lt
  have ho := h.lo
  refine ⟨?_, h.obk.far (by show ob ≠ b; omega) _, own_set h.o1 (fun k hk => by cases hk; show g1 ≠ b; omega), own_set h.o2 (fun k hk => by cases hk; show g2 ≠ b; omega), own_set h.o3 (fun k hk => by cases hk; show g3 ≠ b; omega), h.rl, h.cl, h.lt, h.lo, h.ne, h.bt.trans (.set h.blk.lt 3 _)⟩
  have := h.blk.set_ 3 (.int .i64 v)
  simpa using this
theorem Mid.drew (h : Mid b ob nb g1 c1 g2 c2 g3 c3 old of rests cuts wr W0 W) : Mid b ob nb g1 c1 g2 c2 g3 c3 old of rests cuts wr W0 W.drew := h.later (Below.drew (Below.refl _ _))
theorem Mid.saw {B : Nat} (h : Mid b ob nb g1 c1 g2 c2 g3 c3 old of rests cuts wr W0 W) (hB : B ≤ W0.heap.size) : SawM B b nb ⟨of, rests, cuts, wr⟩ W := by
  obtain ⟨e1, e2, e3⟩ := h.ge
  have hl := h.lt
  obtain ⟨_, _, q1, hc1, i1⟩ := SlAt.of_own (d := (0 : Int)) encI_len h.o1 rfl
  obtain ⟨_, _, q2, -, i2⟩ := SlAt.of_own (d := (0 : Int)) encI_len h.o2 h.rl
  obtain ⟨_, _, q3, -, i3⟩ := SlAt.of_own (d := (0 : Int)) encI_len h.o3 h.cl
  cases q1
  cases q2
  cases q3
  have l1 : g1 < W.heap.size := (own_addr h.o1 _ rfl).2
  have l2 : g2 < W.heap.size := (own_addr h.o2 _ rfl).2
  have l3 : g3 < W.heap.size := (own_addr h.o3 _ rfl).2
  refine ⟨h.rl, h.cl, _, c1, _, c2, _, c3, h.blk, hc1, (fun e => by cases e), ⟨ints_iff.2 i1, fun a e => ?_⟩, ⟨ints_iff.2 i2, fun a e => ?_⟩, ints_iff.2 i3, fun a e => ?_⟩
  all_goals
    cases e
    simp only
    omega
end
/-- the old sawing is laid back -/
theorem but_back {b : Nat} {t : TypeId} {cs : Array Value} {B : Nat} {W0 W W' : World} (h0 : Blk W0 b t cs) (hb : But b W0 W) (h1 : Blk W' b t cs) (hb' : But b W W') : KeepC B W0 W' := by
  have h := hb.trans hb'
  refine ⟨h.size, fun k _ hk => ?_⟩
  by_cases e : k = b
  · subst e; exact Eq.trans h1 h0.symm
  · exact h.same k hk e
/-- moderate numbers in a sawing under way -/
structure OkSw (nb : Nat) (st : Sw) : Prop where
  rests : ∀ k, k < nb → 0 ≤ iAt st.rests k ∧ iAt st.rests k ≤ 999
  cuts : ∀ k, k < nb → 0 ≤ iAt st.cuts k ∧ iAt st.cuts k ≤ st.of.length
  wrong : 0 ≤ st.wrong ∧ st.wrong ≤ st.of.length
/-- moderate numbers in a store, as a valid one has them -/
structure OkSt (bs : List Br) (ps : List Pc) (kf : Int) (nb np : Nat) : Prop where
  hb : nb ≤ 6
  hp : np ≤ 8
  bl : bs.length = nb
  pl : ps.length = np
  kf : 0 ≤ kf ∧ kf ≤ 20
  br : ∀ k, k < nb → 1 ≤ (brAt bs k).long ∧ (brAt bs k).long ≤ 999
  pc : ∀ k, k < np → 1 ≤ (pcAt ps k).long ∧ (pcAt ps k).long ≤ 999 ∧ (pcAt ps k).hs.length ≤ 40
theorem iAt_set {l : List Int} {i k : Nat} {v : Int} (hk : k < l.length) : iAt (l.set k v) i = if i = k then v else iAt l i := by
  unfold iAt
  rw [List.getD_eq_getElem?_getD, List.getElem?_set]
  by_cases e : k = i
  · subst e; simp [hk]
  · rw [if_neg e, if_neg (fun h => e h.symm), List.getD_eq_getElem?_getD]
theorem OkSw.step {bs : List Br} {ps : List Pc} {kf : Int} {nb np bar : Nat} {st : Sw} (h : OkSw nb st) (ok : OkSt bs ps kf nb np) (hr : st.rests.length = nb) (hc : st.cuts.length = nb) (hb : bar < nb) (hp : st.of.length < np) (hf : fitS kf st bar (pcAt ps st.of.length).long = true) : OkSw nb (stS bs ps kf st bar) := by
  have h1 := h.rests bar hb
  have h2 := h.cuts bar hb
  have h3 := h.wrong
  have h4 := (ok.pc _ hp).1
  have h5 := ok.kf
  unfold fitS at hf
  refine ⟨fun k hk => ?_, fun k hk => ?_, ?_⟩
  · simp only [stS]
    rw [iAt_set (by omega)]
    split
    · cases hc : decide (0 < iAt st.cuts bar) <;> rw [hc] at hf <;> simp at hf ⊢ <;> omega
    · exact h.rests k hk
  · simp only [stS]
    rw [iAt_set (by omega)]
    have := h.cuts k hk
    split <;> simp <;> omega
  · simp only [stS]
    cases wrB bs ps st.of.length bar <;> simp <;> omega

end Go.Proofs.Ytmopnbijfcamjaa
