/- groups of stretch (layer 4): the lengths of a time by how many readings are not right. -/
import Derived.Test.YtjlibgledkdfiaaGl4
import Derived.Maps.OwnRows
import Derived.Maps.OwnOps
namespace Go.Proofs.Ytjlibgledkdfiaa
open Go.RowKit Go.Maps Go.Sort Go.ChangeShapes
open Go.Sort (grow)
set_option linter.unusedVariables false

theorem int4_info : (Try.prog.info? 3).map (fun i => (i.zero, i.size, i.bytes)) = some (some (.int .i64 0), 1, 8) := by kernel_rfl
theorem int4E : ElemT Try.prog 53 3 1 8 := by
  obtain ⟨i0, hi0, hz0, hz1, hz2⟩ := info_parts int4_info
  exact ⟨Try.underlying53, ⟨i0, _, hi0, hz0, hz1, hz2, rfl⟩, by omega, by omega⟩
theorem grp4_info : (Try.prog.info? 84).map (fun i => (i.zero, i.size, i.bytes)) = some (some (.agg #[.int .i64 0, .slice none 0 0]), 2, 32) := by kernel_rfl
theorem grp4E : ElemT Try.prog 112 84 2 32 := by
  obtain ⟨i0, hi0, hz0, hz1, hz2⟩ := info_parts grp4_info
  exact ⟨Try.underlying112, ⟨i0, _, hi0, hz0, hz1, hz2, rfl⟩, by omega, by omega⟩
theorem zeroS4 (w : World) : (zeroValue 53).run Try.prog w = .ok (.slice none 0 0) w := by kernel_rfl
/-- a group in memory -/
structure Hg4 where
  w : Int
  h : Hd
def encG4 (x : Hg4) : List Value := [.int .i64 x.w, .slice x.h.A x.h.n x.h.c]
theorem encG4_len (x : Hg4) : (encG4 x).length = 2 := rfl
theorem encG4_one (x : Hg4) : ∀ u ∈ encG4 x, u.oneCell' = true := by
  intro u hu; simp only [encG4, List.mem_cons, List.not_mem_nil, or_false] at hu; rcases hu with rfl | rfl <;> rfl
def hgAt (hs : List Hg4) (k : Nat) : Hg4 := hs.getD k ⟨0, ⟨none, 0, 0⟩⟩
def ggAt (gs : List (Nat × List Int)) (k : Nat) : Nat × List Int := gs.getD k (0, [])
theorem hgAt_lt {hs : List Hg4} {h : Hg4} {k : Nat} (hk : k < hs.length) : hgAt (hs ++ [h]) k = hgAt hs k := by
  unfold hgAt; rw [List.getD_eq_getElem?_getD, List.getD_eq_getElem?_getD, List.getElem?_append_left hk]
theorem hgAt_eq {hs : List Hg4} {h : Hg4} : hgAt (hs ++ [h]) hs.length = h := by
  unfold hgAt; rw [List.getD_eq_getElem?_getD, List.getElem?_append_right (Nat.le_refl _), Nat.sub_self]; rfl
theorem ggAt_lt {hs : List (Nat × List Int)} {h : Nat × List Int} {k : Nat} (hk : k < hs.length) : ggAt (hs ++ [h]) k = ggAt hs k := by
  unfold ggAt; rw [List.getD_eq_getElem?_getD, List.getD_eq_getElem?_getD, List.getElem?_append_left hk]
theorem ggAt_eq {hs : List (Nat × List Int)} {h : Nat × List Int} : ggAt (hs ++ [h]) hs.length = h := by
  unfold ggAt; rw [List.getD_eq_getElem?_getD, List.getElem?_append_right (Nat.le_refl _), Nat.sub_self]; rfl
/-- one row of lengths, at or above a block -/
def RowB (base : Nat) (w : World) (h : Hd) (l : List Int) : Prop := IntsAt w h.A h.n l ∧ ∀ a, h.A = some a → base ≤ a.block ∧ a.block < w.heap.size
/-- a slice of groups reads as a list of groups; all its memory lies at or above a block -/
structure GsAt4 (base : Nat) (w : World) (A : Option Addr) (n : Nat) (hs : List Hg4) (gs : List (Nat × List Int)) : Prop where
  sl : SlAt encG4 2 ⟨0, ⟨none, 0, 0⟩⟩ w A n hs
  gl : gs.length = n
  bs : ∀ a, A = some a → base ≤ a.block ∧ a.block < w.heap.size
  inn : ∀ k, k < n → (hgAt hs k).w = ((ggAt gs k).1 : Int) ∧ RowB base w (hgAt hs k).h (ggAt gs k).2
section
variable {base : Nat} {w w' : World} {A : Option Addr} {n : Nat} {hs : List Hg4} {gs : List (Nat × List Int)}
theorem RowB.later {h : Hd} {l : List Int} (H : RowB base w h l) (hb : Below w.heap.size w w') : RowB base w' h l := ⟨H.1.later hb, fun a e => ⟨(H.2 a e).1, Nat.lt_of_lt_of_le (H.2 a e).2 hb.size⟩⟩
theorem GsAt4.later (h : GsAt4 base w A n hs gs) (hb : Below w.heap.size w w') : GsAt4 base w' A n hs gs :=
  ⟨⟨h.sl.1, h.sl.2.later hb⟩, h.gl, fun a e => ⟨(h.bs a e).1, Nat.lt_of_lt_of_le (h.bs a e).2 hb.size⟩, fun k hk => ⟨(h.inn k hk).1, (h.inn k hk).2.later hb⟩⟩
theorem GsAt4.get (h : GsAt4 base w A n hs gs) {k : Nat} (hk : k < n) :
    ∃ b off, A = some ⟨b, off, none⟩ ∧ b < w.heap.size ∧ w.cell? ⟨b, off + k * 2, none⟩ = some (.int .i64 (ggAt gs k).1) ∧ w.cell? ⟨b, off + k * 2 + 1, none⟩ = some (.slice (hgAt hs k).h.A (hgAt hs k).h.n (hgAt hs k).h.c) ∧ RowB base w (hgAt hs k).h (ggAt gs k).2 := by
  obtain ⟨b, off, e, hb, hc⟩ := h.sl.2 (by omega)
  have h0 := hc k hk 0 _ rfl
  have h1 := hc k hk 1 _ rfl
  rw [show ((hs.getD k ⟨0, ⟨none, 0, 0⟩⟩ : Hg4)) = hgAt hs k from rfl] at h0 h1
  rw [(h.inn k hk).1] at h0
  exact ⟨b, off, e, hb, h0, h1, (h.inn k hk).2⟩
end
/-- groups that the call itself makes: the slice in a block at or above base, the rows in others, at or above rb -/
structure OwnGs (base rb : Nat) (w : World) (v : Value) (n : Nat) (hs : List Hg4) (gs : List (Nat × List Int)) : Prop where
  own : w.ownsRow base 84 2 v n (hs.flatMap encG4)
  hl : hs.length = n
  gl : gs.length = n
  inn : ∀ k, k < n → (hgAt hs k).w = ((ggAt gs k).1 : Int) ∧ IntsAt w (hgAt hs k).h.A (hgAt hs k).h.n (ggAt gs k).2 ∧ ∀ a, (hgAt hs k).h.A = some a → rb ≤ a.block ∧ a.block < base
section
variable {base rb : Nat} {w w' : World} {v : Value} {n : Nat} {hs : List Hg4} {gs : List (Nat × List Int)}
theorem OwnGs.nil (w : World) (base rb : Nat) : OwnGs base rb w (.slice none 0 0) 0 [] [] :=
  ⟨World.ownsRow_nil w base _ 2, rfl, rfl, fun k hk => absurd hk (by omega)⟩
theorem OwnGs.at_ (h : OwnGs base rb w v n hs gs) (hr : rb ≤ base) (hb : base ≤ w.heap.size) : ∃ A c, v = .slice A n c ∧ GsAt4 rb w A n hs gs := by
  obtain ⟨A, c, rfl, -, hsl⟩ := SlAt.of_own (d := (⟨0, ⟨none, 0, 0⟩⟩ : Hg4)) encG4_len h.own h.hl
  exact ⟨A, c, rfl, hsl, h.gl, fun a e => by have := own_addr h.own a e; omega, fun k hk => ⟨(h.inn k hk).1, (h.inn k hk).2.1, fun a e => by have := (h.inn k hk).2.2 a e; omega⟩⟩
theorem OwnGs.push (h : OwnGs base rb w v n hs gs) {o : Obj} {v' : Value} {x : Hg4} {g : Nat × List Int} (hx : x.w = (g.1 : Int)) (hi : IntsAt w x.h.A x.h.n g.2) (hne : ∀ a, x.h.A = some a → rb ≤ a.block ∧ a.block < base)
    (ho : w'.ownsRow base 84 2 v' (n + 1) ((hs ++ [x]).flatMap encG4)) (hg : (w.alloc o).grownBy w' v.ownBlock) (hbs : base ≤ w.heap.size) : OwnGs base rb w' v' (n + 1) (hs ++ [x]) (gs ++ [g]) := by
  have one : ∀ (y : Hg4) (ys : List Int), IntsAt w y.h.A y.h.n ys → (∀ a, y.h.A = some a → rb ≤ a.block ∧ a.block < base) → IntsAt w' y.h.A y.h.n ys := by
    intro y ys h1 h2
    exact IntsAt.grown (h1.later ((Below.refl _ _).alloc (Nat.le_refl _) o)) hg fun a e e' => by have := (h2 a e).2; have := (h.own.lt _ e').1; omega
  have el := h.hl
  have eg := h.gl
  refine ⟨ho, by simp [h.hl], by simp [h.gl], fun k hk => ?_⟩
  rcases Nat.lt_succ_iff_lt_or_eq.1 hk with h' | rfl
  · rw [hgAt_lt (by omega), ggAt_lt (by omega)]
    exact ⟨(h.inn k h').1, one _ _ (h.inn k h').2.1 (h.inn k h').2.2, (h.inn k h').2.2⟩
  · have e1 := hgAt_eq (hs := hs) (h := x)
    have e2 := ggAt_eq (hs := gs) (h := g)
    rw [el] at e1
    rw [eg] at e2
    rw [e1, e2]
    exact ⟨hx, one _ _ hi hne, hne⟩
end
/-- what groups hands back -/
def Grp4 (w : World) (gs : List (Nat × List Int)) (e : Ending) (w' : World) : Prop :=
  ∃ A c hs, e = .returned (.slice A gs.length c) ∧ GsAt4 w.heap.size w' A gs.length hs gs ∧ Below w.heap.size w w'

end Go.Proofs.Ytjlibgledkdfiaa
