/- Slices of slices of numbers: read as lists of lists; made by the call itself; The edges of a yard (layer 5), in plain terms. -/
import Derived.Test.YtcinhibmohkeiaaQy02
import Derived.Test.YtcinhibmohkeiaaQy03
namespace Go.Proofs.Ytcinhibmohkeiaa
open Go.RowKit
open Go.Sort (grow)
set_option linter.unusedVariables false
set_option linter.unusedSimpArgs false

structure Hd where
  A : Option Addr
  n : Nat
  c : Nat
def encH (h : Hd) : List Value := [.slice h.A h.n h.c]
theorem encH_len (h : Hd) : (encH h).length = 1 := rfl
theorem encH_one (x : Hd) : ∀ u ∈ encH x, u.oneCell' = true := by
  intro u hu; simp only [encH, List.mem_cons, List.not_mem_nil, or_false] at hu; subst hu; rfl
def hAt (hs : List Hd) (k : Nat) : Hd := hs.getD k ⟨none, 0, 0⟩
def xAt (xss : List (List Int)) (k : Nat) : List Int := xss.getD k []
theorem hAt_lt {hs : List Hd} {h : Hd} {k : Nat} (hk : k < hs.length) : hAt (hs ++ [h]) k = hAt hs k := by
  unfold hAt; rw [List.getD_eq_getElem?_getD, List.getD_eq_getElem?_getD, List.getElem?_append_left hk]
theorem hAt_eq {hs : List Hd} {h : Hd} : hAt (hs ++ [h]) hs.length = h := by
  unfold hAt; rw [List.getD_eq_getElem?_getD]; simp
theorem xAt_lt {hs : List (List Int)} {h : List Int} {k : Nat} (hk : k < hs.length) : xAt (hs ++ [h]) k = xAt hs k := by
  unfold xAt; rw [List.getD_eq_getElem?_getD, List.getD_eq_getElem?_getD, List.getElem?_append_left hk]
theorem xAt_eq {hs : List (List Int)} {h : List Int} : xAt (hs ++ [h]) hs.length = h := by
  unfold xAt; rw [List.getD_eq_getElem?_getD]; simp
theorem IntsAt.grown {w w' : World} {A : Option Addr} {n : Nat} {xs : List Int} {row : Option Nat} (h : IntsAt w A n xs) (hg : w.grownBy w' row) (hne : ∀ a, A = some a → row ≠ some a.block) : IntsAt w' A n xs := by
  refine ⟨h.1, fun hn => ?_⟩
  obtain ⟨b, off, rfl, hb, hc⟩ := h.2 hn
  exact ⟨b, off, rfl, Nat.lt_of_lt_of_le hb hg.size, fun k hk j u hu => (World.cell?_of_block (hg.block b hb (fun e => hne _ rfl e.symm))).trans (hc k hk j u hu)⟩
/-- a slice of slices reads as a list of lists -/
structure SsAt (w : World) (A : Option Addr) (n : Nat) (hs : List Hd) (xss : List (List Int)) : Prop where
  sl : SlAt encH 1 ⟨none, 0, 0⟩ w A n hs
  xl : xss.length = n
  inn : ∀ k, k < n → IntsAt w (hAt hs k).A (hAt hs k).n (xAt xss k)
  bd : ∀ k, k < n → ∀ a, (hAt hs k).A = some a → a.block < w.heap.size
theorem SsAt.nil (w : World) : SsAt w none 0 [] [] := ⟨⟨rfl, fun h => absurd h (by omega)⟩, rfl, fun k hk => absurd hk (by omega), fun k hk => absurd hk (by omega)⟩
theorem SsAt.later {w w' : World} {A : Option Addr} {n : Nat} {hs : List Hd} {xss : List (List Int)} (h : SsAt w A n hs xss) (hb : Below w.heap.size w w') : SsAt w' A n hs xss :=
  ⟨⟨h.sl.1, h.sl.2.later hb⟩, h.xl, fun k hk => (h.inn k hk).later hb, fun k hk a ha => Nat.lt_of_lt_of_le (h.bd k hk a ha) hb.size⟩
theorem SsAt.get {w : World} {A : Option Addr} {n : Nat} {hs : List Hd} {xss : List (List Int)} (h : SsAt w A n hs xss) {k : Nat} (hk : k < n) :
    ∃ b off, A = some ⟨b, off, none⟩ ∧ b < w.heap.size ∧ w.cell? ⟨b, off + k, none⟩ = some (.slice (hAt hs k).A (hAt hs k).n (hAt hs k).c) ∧ IntsAt w (hAt hs k).A (hAt hs k).n (xAt xss k) := by
  obtain ⟨b, off, e, hb, hc⟩ := h.sl.2 (by omega)
  have h1 := hc k hk 0 _ rfl
  rw [Nat.mul_one] at h1
  exact ⟨b, off, e, hb, h1, h.inn k hk⟩
/-- a slice of slices that the call itself makes -/
structure OwnSs (base : Nat) (e : TypeId) (w : World) (v : Value) (n : Nat) (hs : List Hd) (xss : List (List Int)) : Prop where
  own : w.ownsRow base e 1 v n (hs.flatMap encH)
  hl : hs.length = n
  xl : xss.length = n
  inn : ∀ k, k < n → IntsAt w (hAt hs k).A (hAt hs k).n (xAt xss k) ∧ ∀ a, (hAt hs k).A = some a → v.ownBlock ≠ some a.block ∧ a.block < w.heap.size
section
variable {base : Nat} {e : TypeId} {w w' : World} {v : Value} {n : Nat} {hs : List Hd} {xss : List (List Int)}
theorem OwnSs.nil (w : World) (base : Nat) (e : TypeId) : OwnSs base e w (.slice none 0 0) 0 [] [] :=
  ⟨World.ownsRow_nil w base e 1, rfl, rfl, fun k hk => absurd hk (by omega)⟩
theorem OwnSs.later (h : OwnSs base e w v n hs xss) (hb : Below w.heap.size w w') : OwnSs base e w' v n hs xss :=
  ⟨own_below h.own hb, h.hl, h.xl, fun k hk => ⟨(h.inn k hk).1.later hb, fun a ha => ⟨((h.inn k hk).2 a ha).1, Nat.lt_of_lt_of_le ((h.inn k hk).2 a ha).2 hb.size⟩⟩⟩
theorem OwnSs.ss (h : OwnSs base e w v n hs xss) : ∃ A c, v = .slice A n c ∧ SsAt w A n hs xss := by
  obtain ⟨A, c, rfl, -, hsl⟩ := SlAt.of_own (d := (⟨none, 0, 0⟩ : Hd)) encH_len h.own h.hl
  exact ⟨A, c, rfl, hsl, h.xl, fun k hk => (h.inn k hk).1, fun k hk a ha => ((h.inn k hk).2 a ha).2⟩
theorem OwnSs.push (h : OwnSs base e w v n hs xss) {o : Obj} {v' : Value} {x : Hd} {xs : List Int} (hx : IntsAt w x.A x.n xs) (hne : ∀ a, x.A = some a → v.ownBlock ≠ some a.block ∧ a.block < w.heap.size)
    (ho : w'.ownsRow base e 1 v' (n + 1) ((hs ++ [x]).flatMap encH)) (hg : (w.alloc o).grownBy w' v.ownBlock) (ha : v'.ownBlock = v.ownBlock ∨ v'.ownBlock = some (w.alloc o).heap.size) : OwnSs base e w' v' (n + 1) (hs ++ [x]) (xss ++ [xs]) := by
  have hsz := hg.size
  simp only [World.size_alloc] at hsz
  have one : ∀ (y : Hd) (ys : List Int), IntsAt w y.A y.n ys → (∀ a, y.A = some a → v.ownBlock ≠ some a.block ∧ a.block < w.heap.size) → IntsAt w' y.A y.n ys ∧ ∀ a, y.A = some a → v'.ownBlock ≠ some a.block ∧ a.block < w'.heap.size := by
    intro y ys h1 h2
    refine ⟨IntsAt.grown (h1.later ((Below.refl _ _).alloc (Nat.le_refl _) o)) hg fun a e => (h2 a e).1, fun a e => ⟨?_, by have := (h2 a e).2; omega⟩⟩
    rcases ha with ha | ha
    · rw [ha]; exact (h2 a e).1
    · rw [ha]
      intro e'
      have h3 := (h2 a e).2
      have h4 := Option.some.inj e'
      simp at h4
      omega
  refine ⟨ho, by simp [h.hl], by simp [h.xl], fun k hk => ?_⟩
  rcases Nat.lt_succ_iff_lt_or_eq.1 hk with h' | rfl
  · rw [hAt_lt (by rw [h.hl]; exact h'), xAt_lt (by rw [h.xl]; exact h')]
    exact one _ _ (h.inn k h').1 (h.inn k h').2
  · have e1 := hAt_eq (hs := hs) (h := x)
    have e2 := xAt_eq (hs := xss) (h := xs)
    rw [h.hl] at e1
    rw [h.xl] at e2
    rw [e1, e2]
    exact one _ _ hx hne
/-- where a row of one's own lies -/
theorem own_addr {size : Nat} {A : Option Addr} {c : Nat} {xs : List Value} (h : w.ownsRow base e size (.slice A n c) n xs) : ∀ a, A = some a → base ≤ a.block ∧ a.block < w.heap.size := by
  intro a ha
  subst ha
  rcases h.2 with ⟨h1, h2⟩ | ⟨g, cap, cur, hv, hb, hh, r⟩
  · first | cases h1 | cases h2
  · cases hv
    exact ⟨hb, (Array.getElem?_eq_some_iff.1 hh).1⟩
end

end Go.Proofs.Ytcinhibmohkeiaa

namespace Go.Proofs.Ytcinhibmohkeiaa
open Go.RowKit
open Go.Sort (grow)
set_option linter.unusedVariables false
set_option linter.unusedSimpArgs false

def edM (ms : List Sp) (i : Nat) : List Ed5 := [⟨-1, i, -1, (spAt ms i).hi⟩, ⟨i, -1, -1, -(spAt ms i).lo⟩]
def edC (cs : List Cm5) (i : Nat) : List Ed5 := [⟨(cmAt cs i).b, (cmAt cs i).a, i, (cmAt cs i).hi⟩, ⟨(cmAt cs i).a, (cmAt cs i).b, i, -(cmAt cs i).lo⟩]
def edMs (ms : List Sp) (k : Nat) : List Ed5 := (List.range k).flatMap (edM ms)
def edCs (cs : List Cm5) (right : Nat → Bool) (k : Nat) : List Ed5 := ((List.range k).filter right).flatMap (edC cs)
/-- what all machines, and the comparisons that are right, say -/
def eds5 (ms : List Sp) (cs : List Cm5) (right : Nat → Bool) : List Ed5 := edMs ms ms.length ++ edCs cs right cs.length
theorem edMs_succ {ms : List Sp} {k : Nat} : edMs ms (k + 1) = edMs ms k ++ edM ms k := by
  unfold edMs; rw [List.range_succ, List.flatMap_append]; simp
theorem edMs_len {ms : List Sp} : ∀ k, (edMs ms k).length = 2 * k
  | 0 => rfl
  | k + 1 => by rw [edMs_succ, List.length_append, edMs_len k]; simp [edM]; omega
theorem edCs_succ {cs : List Cm5} {right : Nat → Bool} {k : Nat} : edCs cs right (k + 1) = edCs cs right k ++ (if right k = true then edC cs k else []) := by
  unfold edCs
  rw [List.range_succ, List.filter_append, List.flatMap_append]
  cases h : right k <;> simp [h]
theorem edCs_len {cs : List Cm5} {right : Nat → Bool} : ∀ k, (edCs cs right k).length ≤ 2 * k
  | 0 => Nat.le_refl _
  | k + 1 => by
    have := edCs_len (cs := cs) (right := right) k
    rw [edCs_succ, List.length_append]
    split
    · simp [edC]; omega
    · simp; omega
theorem mem_edMs {ms : List Sp} {k : Nat} {e : Ed5} : e ∈ edMs ms k ↔ ∃ i, i < k ∧ e ∈ edM ms i := by
  unfold edMs; rw [List.mem_flatMap]; simp
theorem mem_edCs {cs : List Cm5} {right : Nat → Bool} {k : Nat} {e : Ed5} : e ∈ edCs cs right k ↔ ∃ i, i < k ∧ right i = true ∧ e ∈ edC cs i := by
  unfold edCs; rw [List.mem_flatMap]; simp [and_assoc]
theorem edAt_mem {es : List Ed5} {k : Nat} (h : k < es.length) : edAt es k ∈ es := by
  unfold edAt; rw [List.getD_eq_getElem?_getD, List.getElem?_eq_getElem h]; exact List.getElem_mem h
theorem edOk_eds {ms : List Sp} {cs : List Cm5} {right : Nat → Bool} (hc : ∀ i, i < cs.length → (0 ≤ (cmAt cs i).a ∧ (cmAt cs i).a < ms.length) ∧ 0 ≤ (cmAt cs i).b ∧ (cmAt cs i).b < ms.length) : EdOk ms.length (eds5 ms cs right) := fun k hk => by
  have hk2 := edAt_mem hk
  generalize edAt (eds5 ms cs right) k = e at hk2 ⊢
  rcases List.mem_append.1 hk2 with h | h
  · obtain ⟨i, hi, h⟩ := mem_edMs.1 h
    simp only [edM, List.mem_cons, List.not_mem_nil, or_false] at h
    rcases h with h | h <;> rw [h] <;> simp only <;> omega
  · obtain ⟨i, hi, -, h⟩ := mem_edCs.1 h
    have := hc i hi
    simp only [edC, List.mem_cons, List.not_mem_nil, or_false] at h
    rcases h with h | h <;> rw [h] <;> simp only <;> omega
/-- errors that satisfy all machines and the comparisons that are right are potentials -/
theorem sat_eds {ms : List Sp} {cs : List Cm5} {right : Nat → Bool} {x : Nat → Int} (hg : x ms.length = 0) (hm : ∀ i, i < ms.length → (spAt ms i).lo ≤ x i ∧ x i ≤ (spAt ms i).hi)
    (hc : ∀ i, i < cs.length → right i = true → ∃ a b : Nat, (cmAt cs i).a = a ∧ (cmAt cs i).b = b ∧ (cmAt cs i).lo ≤ x a - x b ∧ x a - x b ≤ (cmAt cs i).hi) : Sat5 ms.length x (eds5 ms cs right) := fun k hk => by
  have hN : ∀ i : Nat, nd5 ms.length (i : Int) = i := fun i => by unfold nd5; rw [if_neg (by omega)]; simp
  have hG : nd5 ms.length (-1) = ms.length := by unfold nd5; rw [if_pos rfl]
  have hk2 := edAt_mem hk
  generalize edAt (eds5 ms cs right) k = e at hk2 ⊢
  rcases List.mem_append.1 hk2 with h | h
  · obtain ⟨i, hi, h⟩ := mem_edMs.1 h
    have := hm i hi
    simp only [edM, List.mem_cons, List.not_mem_nil, or_false] at h
    rcases h with h | h <;> rw [h] <;> simp only [hN, hG, hg] <;> omega
  · obtain ⟨i, hi, hr, h⟩ := mem_edCs.1 h
    obtain ⟨a, b, ha, hb, h1, h2⟩ := hc i hi hr
    simp only [edC, List.mem_cons, List.not_mem_nil, or_false] at h
    rcases h with h | h <;> rw [h] <;> simp only [ha, hb, hN] <;> omega

end Go.Proofs.Ytcinhibmohkeiaa
