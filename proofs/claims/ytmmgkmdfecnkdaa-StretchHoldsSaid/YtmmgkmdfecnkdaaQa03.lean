/- A region that draws its order, by an invariant: what is known of the frame and the world once some of its operations have come up, in whatever order; Slices of slices of numbers: read as lists of lists; made by the call itself; A number within bounds. -/
import Derived.Test.YtmmgkmdfecnkdaaQa02
namespace Go.Proofs.Ytmmgkmdfecnkdaa
open Go.RowKit
open Go.Sort (grow)
set_option linter.unusedVariables false
set_option linter.unusedSimpArgs false

section
variable {P : Program} {ops : Array Oper} {Q : Exit → Act → World → Prop}
/-- every operation waits for earlier ones alone -/
def waitsBack (ops : Array Oper) : Bool := (List.range ops.size).all fun i => ((ops[i]?).map fun o => o.after.all fun e => !Region.binds .any e || decide (e.on < i)).getD true
theorem ready_all {listed : Array Bool} (hd : waitsBack ops = true) (hs : listed.size = ops.size) (hr : Region.ready .any ops listed = []) : ∀ k, listed.getD k true = true := by
  intro k
  induction k using Nat.strongRecOn with
  | _ k ih =>
    refine Classical.byContradiction fun hn => ?_
    have hk : listed.getD k true = false := by simpa using hn
    have hlt : k < ops.size := by
      refine Classical.byContradiction fun hc => ?_
      rw [Array.getD_eq_getD_getElem?, Array.getElem?_eq_none (by omega)] at hk
      simp at hk
    have hm : k ∈ Region.ready .any ops listed := by
      rw [mem_ready]
      refine ⟨hk, ops[k], Array.getElem?_eq_getElem hlt, fun e he hb => ?_⟩
      unfold waitsBack at hd
      rw [List.all_eq_true] at hd
      have h1 := hd k (by simpa using hlt)
      rw [Array.getElem?_eq_getElem hlt] at h1
      simp only [Option.map_some, Option.getD_some, Array.all_eq_true_iff_forall_mem] at h1
      have h2 := h1 e he
      rw [hb] at h2
      simp only [Bool.not_true, Bool.false_or, decide_eq_true_eq] at h2
      have h3 := ih e.on h2
      rw [Array.getD_eq_getD_getElem?, Array.getElem?_eq_getElem (show e.on < listed.size by omega)] at h3 ⊢
      simpa using h3
    rw [hr] at hm
    cases hm
def left (listed : Array Bool) (n : Nat) : Nat := (List.range n).countP fun k => !listed.getD k true
theorem left_set {listed : Array Bool} {n i : Nat} (hi : i < n) (hs : listed.size = n) (h : listed.getD i true = false) : left (listed.setIfInBounds i true) n < left listed n := by
  subst hs
  unfold left
  have e : ∀ m, m ≤ listed.size → (List.range m).countP (fun k => !(listed.setIfInBounds i true).getD k true) + (if i < m then 1 else 0) = (List.range m).countP (fun k => !listed.getD k true) := fun m => by
    induction m with
    | zero => intro _; simp
    | succ m ih =>
      intro hm
      have h1 := ih (by omega)
      rw [List.range_succ, List.countP_append, List.countP_append]
      by_cases e : m = i
      · subst e
        have e1 : (listed.setIfInBounds m true).getD m true = true := by simp [Array.getD_eq_getD_getElem?, hi]
        rw [if_neg (Nat.lt_irrefl m)] at h1
        rw [if_pos (Nat.lt_succ_self m)]
        simp only [List.countP_singleton, h, e1, Bool.not_true, Bool.not_false, Bool.false_eq_true, if_false, if_true]
        omega
      · have e1 : (listed.setIfInBounds i true).getD m true = listed.getD m true := by
          simp only [Array.getD_eq_getD_getElem?, Array.getElem?_setIfInBounds]
          rw [if_neg (Ne.symm e)]
        simp only [List.countP_singleton, e1]
        by_cases h2 : i < m
        · rw [if_pos h2] at h1
          rw [if_pos (show i < m + 1 by omega)]; omega
        · rw [if_neg h2] at h1
          rw [if_neg (show ¬ i < m + 1 by omega)]; omega
  have := e listed.size (Nat.le_refl _)
  rw [if_pos hi] at this
  omega
theorem getD_set (listed : Array Bool) (n i : Nat) (hi : i < listed.size) : (fun k => (listed.setIfInBounds i true).getD k true) = fun k => k == i || listed.getD k true := by
  funext k
  simp only [Array.getD_eq_getD_getElem?, Array.getElem?_setIfInBounds]
  by_cases e : i = k
  · subst e; simp [hi]
  · rw [if_neg e]
    have : (k == i) = false := by simpa using fun h => e h.symm
    simp [this]
theorem wpAny_inv (J : (Nat → Bool) → Act → World → Prop) (hd : waitsBack ops = true)
    (hstep : ∀ L a w i o, i < ops.size → ops[i]? = some o → L i = false → (∀ e ∈ o.after, Region.binds .any e = true → L e.on = true) → J L a w → wpOp P ops Q i (fun a' w' => J (fun k => k == i || L k) a' w') a w)
    (hdone : ∀ L a w, (∀ k, L k = true) → J L a w → Q .normal a w) :
    ∀ (fuel : Nat) (listed : Array Bool) (a : Act) (w : World), listed.size = ops.size → left listed ops.size ≤ fuel → J (fun k => listed.getD k true) a w → wpAny P .any ops Q fuel listed a w := by
  intro fuel
  induction fuel with
  | zero =>
    intro listed a w hs hl hJ
    have hr : Region.ready .any ops listed = [] := by
      cases h : Region.ready .any ops listed with
      | nil => rfl
      | cons i r =>
        obtain ⟨h1, o, h2, -⟩ := mem_ready.1 (show i ∈ Region.ready .any ops listed by rw [h]; simp)
        have hi : i < ops.size := by
          rcases Array.getElem?_eq_some_iff.1 h2 with ⟨h, -⟩
          exact h
        have := left_set hi hs h1
        omega
    exact ⟨hr, hdone _ _ _ (ready_all hd hs hr) hJ⟩
  | succ fuel ih =>
    intro listed a w hs hl hJ
    refine ⟨fun hr => hdone _ _ _ (ready_all hd hs hr) hJ, fun i hi => ?_⟩
    obtain ⟨h1, o, h2, h3⟩ := mem_ready.1 hi
    have hi' : i < ops.size := by
      rcases Array.getElem?_eq_some_iff.1 h2 with ⟨h, -⟩
      exact h
    refine wpOp_mono (fun a' w' h => ?_) (hstep (fun k => listed.getD k true) a w i o hi' h2 h1 (fun e he hb => ?_) hJ)
    · refine ih _ a' w' (by simpa using hs) (by have := left_set hi' hs h1; omega) ?_
      rw [getD_set listed ops.size i (by omega)]
      exact h
    · have h4 := h3 e he hb
      show listed.getD e.on true = true
      rw [Array.getD_eq_getD_getElem?] at h4 ⊢
      cases h5 : listed[e.on]? with
      | none => rfl
      | some b => rw [h5] at h4; exact h4
/-- THE LAW -/
theorem wp_region_inv {id : Nat} {a : Act} {w : World} (hm : P.follows .mixedOrders = true) (hd : waitsBack ops = true) (J : (Nat → Bool) → Act → World → Prop)
    (h0 : J (fun k => decide (ops.size ≤ k)) a w.drew)
    (hstep : ∀ L a w i o, i < ops.size → ops[i]? = some o → L i = false → (∀ e ∈ o.after, Region.binds .any e = true → L e.on = true) → J L a w → wpOp P ops Q i (fun a' w' => J (fun k => k == i || L k) a' w') a w)
    (hdone : ∀ L a w, (∀ k, L k = true) → J L a w → Q .normal a w) : (Code.region id ops true).wp P Q a w := by
  refine wp_region_any hm (wpAny_inv J hd hstep hdone ops.size _ a _ (by simp) ?_ ?_)
  · unfold left
    exact Nat.le_trans List.countP_le_length (by simp)
  · have e : (fun k => (Array.replicate ops.size false).getD k true) = fun k => decide (ops.size ≤ k) := by
      funext k
      simp only [Array.getD_eq_getD_getElem?, Array.getElem?_replicate]
      by_cases h : k < ops.size
      · rw [if_pos h]; simp; omega
      · rw [if_neg h]; simp; omega
    rw [e]
    exact h0
end

end Go.Proofs.Ytmmgkmdfecnkdaa

namespace Go.Proofs.Ytmmgkmdfecnkdaa
open Go.RowKit
open Go.Sort (grow)
set_option linter.unusedVariables false
set_option linter.unusedSimpArgs false

structure Hd where
  A : Option Addr
  n : Nat
  c : Nat
def encH (h : Hd) : List Value := [.slice h.A h.n h.c]
theorem encH_len (h : Hd) : (encH h).length = 1 := rfl
theorem encH_one (x : Hd) : ∀ u ∈ encH x, u.oneCell' = true := by
  intro u hu; simp only [encH, List.mem_cons, List.not_mem_nil, or_false] at hu; subst hu; rfl
def hAt (hs : List Hd) (k : Nat) : Hd := hs.getD k ⟨none, 0, 0⟩
def xAt (xss : List (List Int)) (k : Nat) : List Int := xss.getD k []
theorem hAt_lt {hs : List Hd} {h : Hd} {k : Nat} (hk : k < hs.length) : hAt (hs ++ [h]) k = hAt hs k := by
  unfold hAt; rw [List.getD_eq_getElem?_getD, List.getD_eq_getElem?_getD, List.getElem?_append_left hk]
theorem hAt_eq {hs : List Hd} {h : Hd} : hAt (hs ++ [h]) hs.length = h := by
  unfold hAt; rw [List.getD_eq_getElem?_getD]; simp
theorem xAt_lt {hs : List (List Int)} {h : List Int} {k : Nat} (hk : k < hs.length) : xAt (hs ++ [h]) k = xAt hs k := by
  unfold xAt; rw [List.getD_eq_getElem?_getD, List.getD_eq_getElem?_getD, List.getElem?_append_left hk]
theorem xAt_eq {hs : List (List Int)} {h : List Int} : xAt (hs ++ [h]) hs.length = h := by
  unfold xAt; rw [List.getD_eq_getElem?_getD]; simp
theorem IntsAt.grown {w w' : World} {A : Option Addr} {n : Nat} {xs : List Int} {row : Option Nat} (h : IntsAt w A n xs) (hg : w.grownBy w' row) (hne : ∀ a, A = some a → row ≠ some a.block) : IntsAt w' A n xs := by
  refine ⟨h.1, fun hn => ?_⟩
  obtain ⟨b, off, rfl, hb, hc⟩ := h.2 hn
  exact ⟨b, off, rfl, Nat.lt_of_lt_of_le hb hg.size, fun k hk j u hu => (World.cell?_of_block (hg.block b hb (fun e => hne _ rfl e.symm))).trans (hc k hk j u hu)⟩
/-- a slice of slices reads as a list of lists -/
structure SsAt (w : World) (A : Option Addr) (n : Nat) (hs : List Hd) (xss : List (List Int)) : Prop where
  sl : SlAt encH 1 ⟨none, 0, 0⟩ w A n hs
  xl : xss.length = n
  inn : ∀ k, k < n → IntsAt w (hAt hs k).A (hAt hs k).n (xAt xss k)
  bd : ∀ k, k < n → ∀ a, (hAt hs k).A = some a → a.block < w.heap.size
theorem SsAt.nil (w : World) : SsAt w none 0 [] [] := ⟨⟨rfl, fun h => absurd h (by omega)⟩, rfl, fun k hk => absurd hk (by omega), fun k hk => absurd hk (by omega)⟩
theorem SsAt.later {w w' : World} {A : Option Addr} {n : Nat} {hs : List Hd} {xss : List (List Int)} (h : SsAt w A n hs xss) (hb : Below w.heap.size w w') : SsAt w' A n hs xss :=
  ⟨⟨h.sl.1, h.sl.2.later hb⟩, h.xl, fun k hk => (h.inn k hk).later hb, fun k hk a ha => Nat.lt_of_lt_of_le (h.bd k hk a ha) hb.size⟩
theorem SsAt.get {w : World} {A : Option Addr} {n : Nat} {hs : List Hd} {xss : List (List Int)} (h : SsAt w A n hs xss) {k : Nat} (hk : k < n) :
    ∃ b off, A = some ⟨b, off, none⟩ ∧ b < w.heap.size ∧ w.cell? ⟨b, off + k, none⟩ = some (.slice (hAt hs k).A (hAt hs k).n (hAt hs k).c) ∧ IntsAt w (hAt hs k).A (hAt hs k).n (xAt xss k) := by
  obtain ⟨b, off, e, hb, hc⟩ := h.sl.2 (by omega)
  have h1 := hc k hk 0 _ rfl
  rw [Nat.mul_one] at h1
  exact ⟨b, off, e, hb, h1, h.inn k hk⟩
/-- a slice of slices that the call itself makes -/
structure OwnSs (base : Nat) (e : TypeId) (w : World) (v : Value) (n : Nat) (hs : List Hd) (xss : List (List Int)) : Prop where
  own : w.ownsRow base e 1 v n (hs.flatMap encH)
  hl : hs.length = n
  xl : xss.length = n
  inn : ∀ k, k < n → IntsAt w (hAt hs k).A (hAt hs k).n (xAt xss k) ∧ ∀ a, (hAt hs k).A = some a → v.ownBlock ≠ some a.block ∧ a.block < w.heap.size
section
variable {base : Nat} {e : TypeId} {w w' : World} {v : Value} {n : Nat} {hs : List Hd} {xss : List (List Int)}
theorem OwnSs.nil (w : World) (base : Nat) (e : TypeId) : OwnSs base e w (.slice none 0 0) 0 [] [] :=
  ⟨World.ownsRow_nil w base e 1, rfl, rfl, fun k hk => absurd hk (by omega)⟩
theorem OwnSs.later (h : OwnSs base e w v n hs xss) (hb : Below w.heap.size w w') : OwnSs base e w' v n hs xss :=
  ⟨own_below h.own hb, h.hl, h.xl, fun k hk => ⟨(h.inn k hk).1.later hb, fun a ha => ⟨((h.inn k hk).2 a ha).1, Nat.lt_of_lt_of_le ((h.inn k hk).2 a ha).2 hb.size⟩⟩⟩
theorem OwnSs.ss (h : OwnSs base e w v n hs xss) : ∃ A c, v = .slice A n c ∧ SsAt w A n hs xss := by
  obtain ⟨A, c, rfl, -, hsl⟩ := SlAt.of_own (d := (⟨none, 0, 0⟩ : Hd)) encH_len h.own h.hl
  exact ⟨A, c, rfl, hsl, h.xl, fun k hk => (h.inn k hk).1, fun k hk a ha => ((h.inn k hk).2 a ha).2⟩
theorem OwnSs.push (h : OwnSs base e w v n hs xss) {o : Obj} {v' : Value} {x : Hd} {xs : List Int} (hx : IntsAt w x.A x.n xs) (hne : ∀ a, x.A = some a → v.ownBlock ≠ some a.block ∧ a.block < w.heap.size)
    (ho : w'.ownsRow base e 1 v' (n + 1) ((hs ++ [x]).flatMap encH)) (hg : (w.alloc o).grownBy w' v.ownBlock) (ha : v'.ownBlock = v.ownBlock ∨ v'.ownBlock = some (w.alloc o).heap.size) : OwnSs base e w' v' (n + 1) (hs ++ [x]) (xss ++ [xs]) := by
  have hsz := hg.size
  simp only [World.size_alloc] at hsz
  have one : ∀ (y : Hd) (ys : List Int), IntsAt w y.A y.n ys → (∀ a, y.A = some a → v.ownBlock ≠ some a.block ∧ a.block < w.heap.size) → IntsAt w' y.A y.n ys ∧ ∀ a, y.A = some a → v'.ownBlock ≠ some a.block ∧ a.block < w'.heap.size := by
    intro y ys h1 h2
    refine ⟨IntsAt.grown (h1.later ((Below.refl _ _).alloc (Nat.le_refl _) o)) hg fun a e => (h2 a e).1, fun a e => ⟨?_, by have := (h2 a e).2; omega⟩⟩
    rcases ha with ha | ha
    · rw [ha]; exact (h2 a e).1
    · rw [ha]
      intro e'
      have h3 := (h2 a e).2
      have h4 := Option.some.inj e'
      simp at h4
      omega
  refine ⟨ho, by simp [h.hl], by simp [h.xl], fun k hk => ?_⟩
  rcases Nat.lt_succ_iff_lt_or_eq.1 hk with h' | rfl
  · rw [hAt_lt (by rw [h.hl]; exact h'), xAt_lt (by rw [h.xl]; exact h')]
    exact one _ _ (h.inn k h').1 (h.inn k h').2
  · have e1 := hAt_eq (hs := hs) (h := x)
    have e2 := xAt_eq (hs := xss) (h := xs)
    rw [h.hl] at e1
    rw [h.xl] at e2
    rw [e1, e2]
    exact one _ _ hx hne
/-- where a row of one's own lies -/
theorem own_addr {size : Nat} {A : Option Addr} {c : Nat} {xs : List Value} (h : w.ownsRow base e size (.slice A n c) n xs) : ∀ a, A = some a → base ≤ a.block ∧ a.block < w.heap.size := by
  intro a ha
  subst ha
  rcases h.2 with ⟨h1, h2⟩ | ⟨g, cap, cur, hv, hb, hh, r⟩
  · first | cases h1 | cases h2
  · cases hv
    exact ⟨hb, (Array.getElem?_eq_some_iff.1 hh).1⟩
end

end Go.Proofs.Ytmmgkmdfecnkdaa

namespace Go.Proofs.Ytmmgkmdfecnkdaa
open Go.RowKit
open Go.Sort (grow)
set_option linter.unusedVariables false
set_option linter.unusedSimpArgs false

def wn (n a b : Int) : Bool := decide (a ≤ n) && decide (n ≤ b)
theorem wn_true {x a b : Int} : wn x a b = true ↔ a ≤ x ∧ x ≤ b := by simp [wn]
theorem own_at {w : World} {base : Nat} {e : TypeId} {g n c k : Nat} {xs : List Int} (h : w.ownsRow base e 1 (.slice (some ⟨g, 0, none⟩) n c) n (xs.flatMap encI)) (hl : xs.length = n) (hk : k < n) :
    w.cell? ⟨g, k, none⟩ = some (.int .i64 (iAt xs k)) := by
  have h1 := (h.cellAt (k * 1 + 0) (by omega)).trans (flat_get (d := (0 : Int)) encI_len xs k 0 (by omega) (by omega))
  simpa [encI, iAt] using h1

end Go.Proofs.Ytmmgkmdfecnkdaa
