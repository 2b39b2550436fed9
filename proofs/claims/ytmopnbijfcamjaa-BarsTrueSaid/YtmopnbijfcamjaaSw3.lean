/- The sawing under way behind both clones (layer 1). -/
import Derived.Test.YtmopnbijfcamjaaSw2
namespace Go.Proofs.Ytmopnbijfcamjaa
open Go.RowKit
open Go.Sort (grow)
set_option linter.unusedVariables false

theorem mid_cloned {b nb c5 d2 d3 L pb po np : Nat} {q : Int} {cb cp : Nat} {kf wrg : Int} {Ab G2 G3 : Option Addr} {old : Array Value} {st : Sw} {wr w W6 w7 w8 : World} {A2 A3 : Option Addr} {c2 c3 : Nat}
    (hB7 : Below W6.heap.size W6 w7) (hB8 : Below w7.heap.size w7 w8)
    (ho7 : w7.ownsRow W6.heap.size 3 1 (.slice G2 nb d2) nb (st.rests.flatMap encI)) (ho8 : w8.ownsRow w7.heap.size 3 1 (.slice G3 nb d3) nb (st.cuts.flatMap encI))
    (ho6 : W6.ownsRow wr.heap.size 3 1 (.slice (some ⟨wr.heap.size + 1 + 1, 0, none⟩) (L + 1) c5) (L + 1) ((st.of ++ [q]).flatMap encI))
    (hbk : Blk W6 b 81 #[.slice (some ⟨wr.heap.size + 1 + 1, 0, none⟩) (L + 1) c5, .slice A2 nb c2, .slice A3 nb c3, .int .i64 st.wrong])
    (hob : Blk W6 wr.heap.size 81 old) (hbt : But b wr W6)
    (hp : ∀ j, W6.cell? ⟨w.heap.size, j, none⟩ = #[Value.slice Ab nb cb, .int .i64 kf, .slice (some ⟨pb, po, none⟩) np cp, .int .i64 wrg][j]?)
    (hL : st.of.length = L) (hrl : st.rests.length = nb) (hcl : st.cuts.length = nb) (hlt : b < wr.heap.size) (n6 : b < W6.heap.size) (hltp : w.heap.size < wr.heap.size) (hbw : b < w.heap.size) (hnb0 : 0 < nb) :
    ∃ g2 d2' g3 d3', Hid (Mid b wr.heap.size nb (wr.heap.size + 1 + 1) c5 g2 d2' g3 d3' old (st.of ++ [q]) st.rests st.cuts st.wrong wr ((w8.setCell ⟨b, 1, none⟩ (.slice G2 nb d2)).setCell ⟨b, 2, none⟩ (.slice G3 nb d3))) ∧
      Hid (∀ j, ((w8.setCell ⟨b, 1, none⟩ (.slice G2 nb d2)).setCell ⟨b, 2, none⟩ (.slice G3 nb d3)).cell? ⟨w.heap.size, j, none⟩ = #[Value.slice Ab nb cb, .int .i64 kf, .slice (some ⟨pb, po, none⟩) np cp, .int .i64 wrg][j]?) := by
  obtain ⟨g2, d2', eg2, hg2, hg2'⟩ := ho7.form hnb0
  obtain ⟨g3, d3', eg3, hg3, hg3'⟩ := ho8.form hnb0
  injection eg2 with eg2a eg2b eg2c
  injection eg3 with eg3a eg3b eg3c
  subst eg2a eg2c eg3a eg3c
  have z6 := hbt.size
  have z7 := hB7.size
  have z8 := hB8.size
  have nw6 : wr.heap.size + 1 + 1 < W6.heap.size := (own_addr ho6 _ rfl).2
  have hbs : Below W6.heap.size W6 w8 := hB7.trans (hB8.mono z7)
  have hfar : ∀ {v : Value} {e : TypeId} {m : Nat} {ys : List Value}, w8.ownsRow wr.heap.size e 1 v m ys → ((w8.setCell ⟨b, 1, none⟩ (.slice (some ⟨g2, 0, none⟩) nb d2)).setCell ⟨b, 2, none⟩ (.slice (some ⟨g3, 0, none⟩) nb d3)).ownsRow wr.heap.size e 1 v m ys := fun {v} {e} {m} {ys} h => by
    have hn : ∀ k, v.ownBlock = some k → k ≠ b := fun k hk e => by have := (h.lt k hk).1; omega
    exact own_set (own_set h hn) hn
  have hlen : (st.of ++ [q]).length = L + 1 := by rw [List.length_append, hL]; rfl
  refine ⟨g2, d2, g3, d3, Lib.hid ⟨?_, ?_, ?_, hfar (own_mono (own_below ho7 hB8) (by omega)), hfar (own_mono ho8 (by omega)), hrl, hcl, hlt, Nat.le_refl _, ⟨by omega, by omega, by omega, by omega, by omega, by omega⟩, ?_⟩, Lib.hid fun j => ?_⟩
  · rw [hlen]
    have h := ((hbk.below hbs n6).set_ 1 (.slice (some ⟨g2, 0, none⟩) nb d2)).set_ 2 (.slice (some ⟨g3, 0, none⟩) nb d3)
    simpa using h
  · exact ((hob.below hbs (by omega)).far (by show wr.heap.size ≠ b; omega) _).far (by show wr.heap.size ≠ b; omega) _
  · rw [hlen]; exact hfar (own_below ho6 hbs)
  · exact ((hbt.trans (.of_below hbs)).trans (.set (by omega) 1 _)).trans (.set (by simp; omega) 2 _)
  · exact (World.cell?_setCell_other _ _ _ _ (by intro h; simp only [Addr.mk.injEq] at h; omega)).trans ((World.cell?_setCell_other _ _ _ _ (by intro h; simp only [Addr.mk.injEq] at h; omega)).trans ((hbs.cell (p := ⟨w.heap.size, j, none⟩) (by show w.heap.size < _; omega)).trans (hp j)))
theorem back4 {b : Nat} {t : TypeId} {x0 x1 x2 x3 : Value} {W : World} (v0 v1 v2 v3 : Value) (h : Blk W b t #[x0, x1, x2, x3]) :
    Blk ((((W.setCell ⟨b, 0, none⟩ v0).setCell ⟨b, 1, none⟩ v1).setCell ⟨b, 2, none⟩ v2).setCell ⟨b, 3, none⟩ v3) b t #[v0, v1, v2, v3] ∧ But b W ((((W.setCell ⟨b, 0, none⟩ v0).setCell ⟨b, 1, none⟩ v1).setCell ⟨b, 2, none⟩ v2).setCell ⟨b, 3, none⟩ v3) := by
  refine ⟨?_, ?_⟩
  · have := (((h.set_ 0 v0).set_ 1 v1).set_ 2 v2).set_ 3 v3
    simpa using this
  · have hl := h.lt
    exact (((But.set hl 0 v0).trans (.set (by simpa using hl) 1 v1)).trans (.set (by simpa using hl) 2 v2)).trans (.set (by simpa using hl) 3 v3)
theorem keep_back {b : Nat} {t : TypeId} {cs : Array Value} {B : Nat} {W0 W W1 W' : World} (h0 : Blk W0 b t cs) (hb : But b W0 W) (hk : KeepC B W W1) (h1 : Blk W' b t cs) (hb' : But b W1 W') : KeepC B W0 W' := by
  refine ⟨Nat.le_trans hb.size (Nat.le_trans hk.1 hb'.size), fun k hB hl => ?_⟩
  by_cases e : k = b
  · subst e; exact Eq.trans h1 h0.symm
  · have := hb.size
    have := hk.1
    exact (hb'.same k (by omega) e).trans ((hk.2 k hB (by omega)).trans (hb.same k hl e))
theorem hx_step {bs : List Br} {ps : List Pc} {kf most : Int} {nb p q k : Nat} {st : Sw} {xs : List Sw} (hx : ∀ (i : Nat) (x : Sw), (swK bs ps kf most nb p st nb)[i]? = some x → xs[k + i]? = some x) (ht : tkS bs ps kf most st q = true) (hq : q < nb) :
    ∀ (i : Nat) (x : Sw), (swL bs ps kf most nb p (stS bs ps kf st q))[i]? = some x → xs[k + (swK bs ps kf most nb p st q).length + i]? = some x := by
  intro i x h
  rw [Nat.add_assoc]
  refine hx _ x ?_
  obtain ⟨r, hr⟩ := swK_pre (bs := bs) (ps := ps) (kerf := kf) (most := most) (p := p) (st := st) (show q + 1 ≤ nb from hq)
  rw [← hr, swK_yes ht, List.append_assoc, List.getElem?_append_right (by omega), Nat.add_sub_cancel_left]
  rcases Nat.lt_or_ge i (swL bs ps kf most nb p (stS bs ps kf st q)).length with hi | hi
  · rw [List.getElem?_append_left hi]; exact h
  · rw [List.getElem?_eq_none hi] at h; cases h

end Go.Proofs.Ytmopnbijfcamjaa
