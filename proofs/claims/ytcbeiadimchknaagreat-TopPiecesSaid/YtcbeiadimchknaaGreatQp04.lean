/- Slices of slices of numbers: read as lists of lists; made by the call itself; The hulls of a yard (layer 8): slices of needs, read and made; Pulls (layer 4): rods, readings, lengths, in plain Lean and in memory. -/
import Derived.Test.YtcbeiadimchknaaGreatQp02
import Derived.Test.YtcbeiadimchknaaGreatQp03
namespace Go.Proofs.YtcbeiadimchknaaGreat
open Go.RowKit
open Go.Sort (grow)
set_option linter.unusedVariables false
set_option linter.unusedSimpArgs false

structure Hd where
  A : Option Addr
  n : Nat
  c : Nat
def encH (h : Hd) : List Value := [.slice h.A h.n h.c]
theorem encH_len (h : Hd) : (encH h).length = 1 := rfl
theorem encH_one (x : Hd) : ∀ u ∈ encH x, u.oneCell' = true := by
  intro u hu; simp only [encH, List.mem_cons, List.not_mem_nil, or_false] at hu; subst hu; rfl
def hAt (hs : List Hd) (k : Nat) : Hd := hs.getD k ⟨none, 0, 0⟩
def xAt (xss : List (List Int)) (k : Nat) : List Int := xss.getD k []
theorem hAt_lt {hs : List Hd} {h : Hd} {k : Nat} (hk : k < hs.length) : hAt (hs ++ [h]) k = hAt hs k := by
  unfold hAt; rw [List.getD_eq_getElem?_getD, List.getD_eq_getElem?_getD, List.getElem?_append_left hk]
theorem hAt_eq {hs : List Hd} {h : Hd} : hAt (hs ++ [h]) hs.length = h := by
  unfold hAt; rw [List.getD_eq_getElem?_getD]; simp
theorem xAt_lt {hs : List (List Int)} {h : List Int} {k : Nat} (hk : k < hs.length) : xAt (hs ++ [h]) k = xAt hs k := by
  unfold xAt; rw [List.getD_eq_getElem?_getD, List.getD_eq_getElem?_getD, List.getElem?_append_left hk]
theorem xAt_eq {hs : List (List Int)} {h : List Int} : xAt (hs ++ [h]) hs.length = h := by
  unfold xAt; rw [List.getD_eq_getElem?_getD]; simp
theorem IntsAt.grown {w w' : World} {A : Option Addr} {n : Nat} {xs : List Int} {row : Option Nat} (h : IntsAt w A n xs) (hg : w.grownBy w' row) (hne : ∀ a, A = some a → row ≠ some a.block) : IntsAt w' A n xs := by
  refine ⟨h.1, fun hn => ?_⟩
  obtain ⟨b, off, rfl, hb, hc⟩ := h.2 hn
  exact ⟨b, off, rfl, Nat.lt_of_lt_of_le hb hg.size, fun k hk j u hu => (World.cell?_of_block (hg.block b hb (fun e => hne _ rfl e.symm))).trans (hc k hk j u hu)⟩
/-- a slice of slices reads as a list of lists -/
structure SsAt (w : World) (A : Option Addr) (n : Nat) (hs : List Hd) (xss : List (List Int)) : Prop where
  sl : SlAt encH 1 ⟨none, 0, 0⟩ w A n hs
  xl : xss.length = n
  inn : ∀ k, k < n → IntsAt w (hAt hs k).A (hAt hs k).n (xAt xss k)
  bd : ∀ k, k < n → ∀ a, (hAt hs k).A = some a → a.block < w.heap.size
theorem SsAt.nil (w : World) : SsAt w none 0 [] [] := ⟨⟨rfl, fun h => absurd h (by omega)⟩, rfl, fun k hk => absurd hk (by omega), fun k hk => absurd hk (by omega)⟩
theorem SsAt.later {w w' : World} {A : Option Addr} {n : Nat} {hs : List Hd} {xss : List (List Int)} (h : SsAt w A n hs xss) (hb : Below w.heap.size w w') : SsAt w' A n hs xss :=
  ⟨⟨h.sl.1, h.sl.2.later hb⟩, h.xl, fun k hk => (h.inn k hk).later hb, fun k hk a ha => Nat.lt_of_lt_of_le (h.bd k hk a ha) hb.size⟩
theorem SsAt.get {w : World} {A : Option Addr} {n : Nat} {hs : List Hd} {xss : List (List Int)} (h : SsAt w A n hs xss) {k : Nat} (hk : k < n) :
    ∃ b off, A = some ⟨b, off, none⟩ ∧ b < w.heap.size ∧ w.cell? ⟨b, off + k, none⟩ = some (.slice (hAt hs k).A (hAt hs k).n (hAt hs k).c) ∧ IntsAt w (hAt hs k).A (hAt hs k).n (xAt xss k) := by
  obtain ⟨b, off, e, hb, hc⟩ := h.sl.2 (by omega)
  have h1 := hc k hk 0 _ rfl
  rw [Nat.mul_one] at h1
  exact ⟨b, off, e, hb, h1, h.inn k hk⟩
/-- a slice of slices that the call itself makes -/
structure OwnSs (base : Nat) (e : TypeId) (w : World) (v : Value) (n : Nat) (hs : List Hd) (xss : List (List Int)) : Prop where
  own : w.ownsRow base e 1 v n (hs.flatMap encH)
  hl : hs.length = n
  xl : xss.length = n
  inn : ∀ k, k < n → IntsAt w (hAt hs k).A (hAt hs k).n (xAt xss k) ∧ ∀ a, (hAt hs k).A = some a → v.ownBlock ≠ some a.block ∧ a.block < w.heap.size
section
variable {base : Nat} {e : TypeId} {w w' : World} {v : Value} {n : Nat} {hs : List Hd} {xss : List (List Int)}
theorem OwnSs.nil (w : World) (base : Nat) (e : TypeId) : OwnSs base e w (.slice none 0 0) 0 [] [] :=
  ⟨World.ownsRow_nil w base e 1, rfl, rfl, fun k hk => absurd hk (by omega)⟩
theorem OwnSs.later (h : OwnSs base e w v n hs xss) (hb : Below w.heap.size w w') : OwnSs base e w' v n hs xss :=
  ⟨own_below h.own hb, h.hl, h.xl, fun k hk => ⟨(h.inn k hk).1.later hb, fun a ha => ⟨((h.inn k hk).2 a ha).1, Nat.lt_of_lt_of_le ((h.inn k hk).2 a ha).2 hb.size⟩⟩⟩
theorem OwnSs.ss (h : OwnSs base e w v n hs xss) : ∃ A c, v = .slice A n c ∧ SsAt w A n hs xss := by
  obtain ⟨A, c, rfl, -, hsl⟩ := SlAt.of_own (d := (⟨none, 0, 0⟩ : Hd)) encH_len h.own h.hl
  exact ⟨A, c, rfl, hsl, h.xl, fun k hk => (h.inn k hk).1, fun k hk a ha => ((h.inn k hk).2 a ha).2⟩
theorem OwnSs.push (h : OwnSs base e w v n hs xss) {o : Obj} {v' : Value} {x : Hd} {xs : List Int} (hx : IntsAt w x.A x.n xs) (hne : ∀ a, x.A = some a → v.ownBlock ≠ some a.block ∧ a.block < w.heap.size)
    (ho : w'.ownsRow base e 1 v' (n + 1) ((hs ++ [x]).flatMap encH)) (hg : (w.alloc o).grownBy w' v.ownBlock) (ha : v'.ownBlock = v.ownBlock ∨ v'.ownBlock = some (w.alloc o).heap.size) : OwnSs base e w' v' (n + 1) (hs ++ [x]) (xss ++ [xs]) := by
  have hsz := hg.size
  simp only [World.size_alloc] at hsz
  have one : ∀ (y : Hd) (ys : List Int), IntsAt w y.A y.n ys → (∀ a, y.A = some a → v.ownBlock ≠ some a.block ∧ a.block < w.heap.size) → IntsAt w' y.A y.n ys ∧ ∀ a, y.A = some a → v'.ownBlock ≠ some a.block ∧ a.block < w'.heap.size := by
    intro y ys h1 h2
    refine ⟨IntsAt.grown (h1.later ((Below.refl _ _).alloc (Nat.le_refl _) o)) hg fun a e => (h2 a e).1, fun a e => ⟨?_, by have := (h2 a e).2; omega⟩⟩
    rcases ha with ha | ha
    · rw [ha]; exact (h2 a e).1
    · rw [ha]
      intro e'
      have h3 := (h2 a e).2
      have h4 := Option.some.inj e'
      simp at h4
      omega
  refine ⟨ho, by simp [h.hl], by simp [h.xl], fun k hk => ?_⟩
  rcases Nat.lt_succ_iff_lt_or_eq.1 hk with h' | rfl
  · rw [hAt_lt (by rw [h.hl]; exact h'), xAt_lt (by rw [h.xl]; exact h')]
    exact one _ _ (h.inn k h').1 (h.inn k h').2
  · have e1 := hAt_eq (hs := hs) (h := x)
    have e2 := xAt_eq (hs := xss) (h := xs)
    rw [h.hl] at e1
    rw [h.xl] at e2
    rw [e1, e2]
    exact one _ _ hx hne
/-- where a row of one's own lies -/
theorem own_addr {size : Nat} {A : Option Addr} {c : Nat} {xs : List Value} (h : w.ownsRow base e size (.slice A n c) n xs) : ∀ a, A = some a → base ≤ a.block ∧ a.block < w.heap.size := by
  intro a ha
  subst ha
  rcases h.2 with ⟨h1, h2⟩ | ⟨g, cap, cur, hv, hb, hh, r⟩
  · first | cases h1 | cases h2
  · cases hv
    exact ⟨hb, (Array.getElem?_eq_some_iff.1 hh).1⟩
end

end Go.Proofs.YtcbeiadimchknaaGreat

namespace Go.Proofs.YtcbeiadimchknaaGreat
open Go.RowKit
open Go.Sort (grow)
set_option linter.unusedVariables false
set_option linter.unusedSimpArgs false

theorem hlAt_lt {hs : List (List Nd8)} {h : List Nd8} {k : Nat} (hk : k < hs.length) : hlAt (hs ++ [h]) k = hlAt hs k := by
  unfold hlAt; rw [List.getD_eq_getElem?_getD, List.getD_eq_getElem?_getD, List.getElem?_append_left hk]
theorem hlAt_eq {hs : List (List Nd8)} {h : List Nd8} : hlAt (hs ++ [h]) hs.length = h := by
  unfold hlAt; rw [List.getD_eq_getElem?_getD]; simp
theorem NdsAt.grown {w w' : World} {A : Option Addr} {n : Nat} {xs : List Nd8} {row : Option Nat} (h : NdsAt w A n xs) (hg : w.grownBy w' row) (hne : ∀ a, A = some a → row ≠ some a.block) : NdsAt w' A n xs := by
  refine ⟨h.1, fun hn => ?_⟩
  obtain ⟨b, off, rfl, hb, hc⟩ := h.2 hn
  exact ⟨b, off, rfl, Nat.lt_of_lt_of_le hb hg.size, fun k hk j u hu => (World.cell?_of_block (hg.block b hb (fun e => hne _ rfl e.symm))).trans (hc k hk j u hu)⟩
/-- a slice of slices reads as a list of lists -/
structure HsAt8 (w : World) (A : Option Addr) (n : Nat) (hs : List Hd) (nss : List (List Nd8)) : Prop where
  sl : SlAt encH 1 ⟨none, 0, 0⟩ w A n hs
  xl : nss.length = n
  inn : ∀ k, k < n → NdsAt w (hAt hs k).A (hAt hs k).n (hlAt nss k)
  bd : ∀ k, k < n → ∀ a, (hAt hs k).A = some a → a.block < w.heap.size
theorem HsAt8.nil (w : World) : HsAt8 w none 0 [] [] := ⟨⟨rfl, fun h => absurd h (by omega)⟩, rfl, fun k hk => absurd hk (by omega), fun k hk => absurd hk (by omega)⟩
theorem HsAt8.later {w w' : World} {A : Option Addr} {n : Nat} {hs : List Hd} {nss : List (List Nd8)} (h : HsAt8 w A n hs nss) (hb : Below w.heap.size w w') : HsAt8 w' A n hs nss :=
  ⟨⟨h.sl.1, h.sl.2.later hb⟩, h.xl, fun k hk => (h.inn k hk).later hb, fun k hk a ha => Nat.lt_of_lt_of_le (h.bd k hk a ha) hb.size⟩
theorem HsAt8.get {w : World} {A : Option Addr} {n : Nat} {hs : List Hd} {nss : List (List Nd8)} (h : HsAt8 w A n hs nss) {k : Nat} (hk : k < n) :
    ∃ b off, A = some ⟨b, off, none⟩ ∧ b < w.heap.size ∧ w.cell? ⟨b, off + k, none⟩ = some (.slice (hAt hs k).A (hAt hs k).n (hAt hs k).c) ∧ NdsAt w (hAt hs k).A (hAt hs k).n (hlAt nss k) := by
  obtain ⟨b, off, e, hb, hc⟩ := h.sl.2 (by omega)
  have h1 := hc k hk 0 _ rfl
  rw [Nat.mul_one] at h1
  exact ⟨b, off, e, hb, h1, h.inn k hk⟩
/-- a slice of slices that the call itself makes -/
structure OwnHs8 (base : Nat) (e : TypeId) (w : World) (v : Value) (n : Nat) (hs : List Hd) (nss : List (List Nd8)) : Prop where
  own : w.ownsRow base e 1 v n (hs.flatMap encH)
  hl : hs.length = n
  xl : nss.length = n
  inn : ∀ k, k < n → NdsAt w (hAt hs k).A (hAt hs k).n (hlAt nss k) ∧ ∀ a, (hAt hs k).A = some a → v.ownBlock ≠ some a.block ∧ a.block < w.heap.size
section
variable {base : Nat} {e : TypeId} {w w' : World} {v : Value} {n : Nat} {hs : List Hd} {nss : List (List Nd8)}
theorem OwnHs8.nil (w : World) (base : Nat) (e : TypeId) : OwnHs8 base e w (.slice none 0 0) 0 [] [] :=
  ⟨World.ownsRow_nil w base e 1, rfl, rfl, fun k hk => absurd hk (by omega)⟩
theorem OwnHs8.later (h : OwnHs8 base e w v n hs nss) (hb : Below w.heap.size w w') : OwnHs8 base e w' v n hs nss :=
  ⟨own_below h.own hb, h.hl, h.xl, fun k hk => ⟨(h.inn k hk).1.later hb, fun a ha => ⟨((h.inn k hk).2 a ha).1, Nat.lt_of_lt_of_le ((h.inn k hk).2 a ha).2 hb.size⟩⟩⟩
theorem OwnHs8.ss (h : OwnHs8 base e w v n hs nss) : ∃ A c, v = .slice A n c ∧ HsAt8 w A n hs nss := by
  obtain ⟨A, c, rfl, -, hsl⟩ := SlAt.of_own (d := (⟨none, 0, 0⟩ : Hd)) encH_len h.own h.hl
  exact ⟨A, c, rfl, hsl, h.xl, fun k hk => (h.inn k hk).1, fun k hk a ha => ((h.inn k hk).2 a ha).2⟩
theorem OwnHs8.push (h : OwnHs8 base e w v n hs nss) {o : Obj} {v' : Value} {x : Hd} {xs : List Nd8} (hx : NdsAt w x.A x.n xs) (hne : ∀ a, x.A = some a → v.ownBlock ≠ some a.block ∧ a.block < w.heap.size)
    (ho : w'.ownsRow base e 1 v' (n + 1) ((hs ++ [x]).flatMap encH)) (hg : (w.alloc o).grownBy w' v.ownBlock) (ha : v'.ownBlock = v.ownBlock ∨ v'.ownBlock = some (w.alloc o).heap.size) : OwnHs8 base e w' v' (n + 1) (hs ++ [x]) (nss ++ [xs]) := by
  have hsz := hg.size
  simp only [World.size_alloc] at hsz
  have one : ∀ (y : Hd) (ys : List Nd8), NdsAt w y.A y.n ys → (∀ a, y.A = some a → v.ownBlock ≠ some a.block ∧ a.block < w.heap.size) → NdsAt w' y.A y.n ys ∧ ∀ a, y.A = some a → v'.ownBlock ≠ some a.block ∧ a.block < w'.heap.size := by
    intro y ys h1 h2
    refine ⟨NdsAt.grown (h1.later ((Below.refl _ _).alloc (Nat.le_refl _) o)) hg fun a e => (h2 a e).1, fun a e => ⟨?_, by have := (h2 a e).2; omega⟩⟩
    rcases ha with ha | ha
    · rw [ha]; exact (h2 a e).1
    · rw [ha]
      intro e'
      have h3 := (h2 a e).2
      have h4 := Option.some.inj e'
      simp at h4
      omega
  refine ⟨ho, by simp [h.hl], by simp [h.xl], fun k hk => ?_⟩
  rcases Nat.lt_succ_iff_lt_or_eq.1 hk with h' | rfl
  · rw [hAt_lt (by rw [h.hl]; exact h'), hlAt_lt (by rw [h.xl]; exact h')]
    exact one _ _ (h.inn k h').1 (h.inn k h').2
  · have e1 := hAt_eq (hs := hs) (h := x)
    have e2 := hlAt_eq (hs := nss) (h := xs)
    rw [h.hl] at e1
    rw [h.xl] at e2
    rw [e1, e2]
    exact one _ _ hx hne
end

end Go.Proofs.YtcbeiadimchknaaGreat

namespace Go.Proofs.YtcbeiadimchknaaGreat
open Go.RowKit
open Go.Sort (grow)
set_option linter.unusedVariables false
set_option linter.unusedSimpArgs false

structure Ro4 where
  lg : Int
  we : Int
  gr : Int
structure Re4 where
  wh : Int
  rd : Int
  ct : Int
  rs : Int
  of : Int
  lo : Int
  hi : Int
def encR4 (x : Ro4) : List Value := [.int .i64 x.lg, .int .i64 x.we, .int .i64 x.gr]
def encE4 (x : Re4) : List Value := [.int .i64 x.wh, .int .i64 x.rd, .int .i64 x.ct, .int .i64 x.rs, .int .i64 x.of, .int .i64 x.lo, .int .i64 x.hi]
theorem encR4_len (x : Ro4) : (encR4 x).length = 3 := rfl
theorem encE4_len (x : Re4) : (encE4 x).length = 7 := rfl
theorem encR4_one (x : Ro4) : ∀ u ∈ encR4 x, u.oneCell' = true := by
  intro u hu; simp only [encR4, List.mem_cons, List.not_mem_nil, or_false] at hu; rcases hu with rfl | rfl | rfl <;> rfl
theorem encE4_one (x : Re4) : ∀ u ∈ encE4 x, u.oneCell' = true := by
  intro u hu; simp only [encE4, List.mem_cons, List.not_mem_nil, or_false] at hu; rcases hu with rfl | rfl | rfl | rfl | rfl | rfl | rfl <;> rfl
def roAt (xs : List Ro4) (k : Nat) : Ro4 := xs.getD k ⟨0, 0, 0⟩
def reAt (xs : List Re4) (k : Nat) : Re4 := xs.getD k ⟨0, 0, 0, 0, 0, 0, 0⟩
def RosAt (w : World) (A : Option Addr) (n : Nat) (xs : List Ro4) : Prop := SlAt encR4 3 ⟨0, 0, 0⟩ w A n xs
def ResAt (w : World) (A : Option Addr) (n : Nat) (xs : List Re4) : Prop := SlAt encE4 7 ⟨0, 0, 0, 0, 0, 0, 0⟩ w A n xs
section
variable {w w' : World} {A : Option Addr} {n : Nat}
theorem RosAt.later {xs : List Ro4} (h : RosAt w A n xs) (hb : Below w.heap.size w w') : RosAt w' A n xs := ⟨h.1, h.2.later hb⟩
theorem ResAt.later {xs : List Re4} (h : ResAt w A n xs) (hb : Below w.heap.size w w') : ResAt w' A n xs := ⟨h.1, h.2.later hb⟩
theorem RosAt.get {xs : List Ro4} (h : RosAt w A n xs) {k : Nat} (hk : k < n) :
    ∃ b off, A = some ⟨b, off, none⟩ ∧ b < w.heap.size ∧ w.cell? ⟨b, off + k * 3, none⟩ = some (.int .i64 (roAt xs k).lg) ∧ w.cell? ⟨b, off + k * 3 + 1, none⟩ = some (.int .i64 (roAt xs k).we) ∧ w.cell? ⟨b, off + k * 3 + 2, none⟩ = some (.int .i64 (roAt xs k).gr) := by
  obtain ⟨b, off, e, hb, hc⟩ := h.2 (by omega)
  exact ⟨b, off, e, hb, hc k hk 0 _ rfl, hc k hk 1 _ rfl, hc k hk 2 _ rfl⟩
theorem ResAt.get {xs : List Re4} (h : ResAt w A n xs) {k : Nat} (hk : k < n) :
    ∃ b off, A = some ⟨b, off, none⟩ ∧ b < w.heap.size ∧ w.cell? ⟨b, off + k * 7, none⟩ = some (.int .i64 (reAt xs k).wh) ∧ w.cell? ⟨b, off + k * 7 + 1, none⟩ = some (.int .i64 (reAt xs k).rd) ∧ w.cell? ⟨b, off + k * 7 + 2, none⟩ = some (.int .i64 (reAt xs k).ct) ∧ w.cell? ⟨b, off + k * 7 + 3, none⟩ = some (.int .i64 (reAt xs k).rs)
      ∧ w.cell? ⟨b, off + k * 7 + 4, none⟩ = some (.int .i64 (reAt xs k).of) ∧ w.cell? ⟨b, off + k * 7 + 5, none⟩ = some (.int .i64 (reAt xs k).lo) ∧ w.cell? ⟨b, off + k * 7 + 6, none⟩ = some (.int .i64 (reAt xs k).hi) := by
  obtain ⟨b, off, e, hb, hc⟩ := h.2 (by omega)
  exact ⟨b, off, e, hb, hc k hk 0 _ rfl, hc k hk 1 _ rfl, hc k hk 2 _ rfl, hc k hk 3 _ rfl, hc k hk 4 _ rfl, hc k hk 5 _ rfl, hc k hk 6 _ rfl⟩
end
/-- the lengths of all rods -/
structure W4 where
  w0 : Int
  w1 : Int
  w2 : Int
  w3 : Int
deriving DecidableEq
def W4.at_ (u : W4) (i : Nat) : Int := match i with | 0 => u.w0 | 1 => u.w1 | 2 => u.w2 | _ => u.w3
def W4.put (u : W4) (i : Nat) (n : Int) : W4 := match i with | 0 => { u with w0 := n } | 1 => { u with w1 := n } | 2 => { u with w2 := n } | _ => { u with w3 := n }
theorem W4.at_put {u : W4} {i : Nat} {n : Int} : (u.put i n).at_ i = n := by unfold W4.put W4.at_; match i with | 0 => rfl | 1 => rfl | 2 => rfl | _ + 3 => rfl
theorem W4.at_put_ne {u : W4} {i j : Nat} {n : Int} (hj : j ≤ 3) (hi : i ≤ 3) (h : j ≠ i) : (u.put i n).at_ j = u.at_ j := by
  have hi' : i = 0 ∨ i = 1 ∨ i = 2 ∨ i = 3 := by omega
  have hj' : j = 0 ∨ j = 1 ∨ j = 2 ∨ j = 3 := by omega
  rcases hi' with rfl | rfl | rfl | rfl <;> rcases hj' with rfl | rfl | rfl | rfl <;> first | exact absurd rfl h | rfl
/-- a pull -/
structure P4 where
  ir : Int
  glo : Int
  ghi : Int
  wr : Int
  rods : List Ro4
  res : List Re4
def ckRo4 (x : Ro4) : Bool := wn x.lg 1 9999 && wn x.we 0 (min 9 (x.lg - 1)) && wn x.gr 0 50
def ckRe4 (nr : Nat) (x : Re4) : Bool := (decide (x.wh = 1) || decide (x.wh = 2)) && wn x.rd 0 (nr - 1) && wn x.ct 0 99 && wn x.rs 0 9999 && wn x.of 0 99 && wn x.lo (-50) x.hi && decide (x.hi ≤ 50)
def ck4 (p : P4) : Bool :=
  wn p.ir 0 50 && wn p.glo 1 p.ghi && decide (p.ghi ≤ 99999) && wn p.wr 0 8 && decide (p.rods.length ≤ 4) && decide (p.res.length ≤ 8) && p.rods.all ckRo4 && p.res.all (ckRe4 p.rods.length)
/-- a pull in memory -/
structure MemP (Ar : Option Addr) (nr : Nat) (Ad : Option Addr) (nd : Nat) (p : P4) (W : World) : Prop where
  hr : RosAt W Ar nr p.rods
  hd : ResAt W Ad nd p.res
theorem MemP.later {Ar Ad : Option Addr} {nr nd : Nat} {p : P4} {W W' : World} (h : MemP Ar nr Ad nd p W) (hb : Below W.heap.size W W') : MemP Ar nr Ad nd p W' := ⟨h.hr.later hb, h.hd.later hb⟩
/-- what is valid -/
structure Ok4 (nr nd : Nat) (p : P4) : Prop where
  nr4 : nr ≤ 4
  nd8 : nd ≤ 8
  lr : p.rods.length = nr
  ld : p.res.length = nd
  ir : 0 ≤ p.ir ∧ p.ir ≤ 50
  g : 1 ≤ p.glo ∧ p.glo ≤ p.ghi ∧ p.ghi ≤ 99999
  wr : 0 ≤ p.wr ∧ p.wr ≤ 8
  ro : ∀ k, k < nr → (1 ≤ (roAt p.rods k).lg ∧ (roAt p.rods k).lg ≤ 9999) ∧ (0 ≤ (roAt p.rods k).we ∧ (roAt p.rods k).we ≤ 9 ∧ (roAt p.rods k).we ≤ (roAt p.rods k).lg - 1) ∧ (0 ≤ (roAt p.rods k).gr ∧ (roAt p.rods k).gr ≤ 50)
  re : ∀ k, k < nd → ((reAt p.res k).wh = 1 ∨ (reAt p.res k).wh = 2) ∧ (0 ≤ (reAt p.res k).rd ∧ (reAt p.res k).rd < nr) ∧ (0 ≤ (reAt p.res k).ct ∧ (reAt p.res k).ct ≤ 99) ∧ (0 ≤ (reAt p.res k).rs ∧ (reAt p.res k).rs ≤ 9999) ∧ (0 ≤ (reAt p.res k).of ∧ (reAt p.res k).of ≤ 99) ∧ (-50 ≤ (reAt p.res k).lo ∧ (reAt p.res k).lo ≤ (reAt p.res k).hi ∧ (reAt p.res k).hi ≤ 50)
theorem roAt_mem {xs : List Ro4} {k : Nat} (h : k < xs.length) : roAt xs k ∈ xs := by unfold roAt; rw [List.getD_eq_getElem?_getD, List.getElem?_eq_getElem h]; exact List.getElem_mem h
theorem reAt_mem {xs : List Re4} {k : Nat} (h : k < xs.length) : reAt xs k ∈ xs := by unfold reAt; rw [List.getD_eq_getElem?_getD, List.getElem?_eq_getElem h]; exact List.getElem_mem h
theorem ok4_of {nr nd : Nat} {p : P4} (h : ck4 p = true) (hr : p.rods.length = nr) (hd : p.res.length = nd) : Ok4 nr nd p := by
  simp only [ck4, Bool.and_eq_true, wn_true, decide_eq_true_eq, List.all_eq_true] at h
  obtain ⟨⟨⟨⟨⟨⟨⟨h1, h2⟩, h3⟩, h4⟩, h5⟩, h6⟩, h7⟩, h8⟩ := h
  refine ⟨by omega, by omega, hr, hd, h1, ⟨h2.1, h2.2, h3⟩, h4, fun k hk => ?_, fun k hk => ?_⟩
  · have := h7 _ (roAt_mem (k := k) (xs := p.rods) (by omega))
    simp only [ckRo4, Bool.and_eq_true, wn_true] at this
    omega
  · have := h8 _ (reAt_mem (k := k) (xs := p.res) (by omega))
    simp only [ckRe4, Bool.and_eq_true, Bool.or_eq_true, wn_true, decide_eq_true_eq] at this
    omega
/-- what a reading says -/
def sy4 (x : Re4) (rod : Int) : Int := x.ct * rod + x.rs
def dt4 (ir gr len says t : Int) : Int := len * (1000000 + ir * t) - says * (1000000 + gr * t)
def ok4t (ir gr len says of t : Int) : Bool := decide (dt4 ir gr len says t ≤ of * 1000000) && decide (-dt4 ir gr len says t ≤ of * 1000000)
/-- whether a reading is right with a length and a length of its rod -/
def rt4 (ir gr : Int) (x : Re4) (len rod : Int) : Bool := (ups x.lo x.hi).any fun t => ok4t ir gr len (sy4 x rod) x.of t
/-- reading j of p is right -/
def rg4 (p : P4) (u : W4) (len : Int) (j : Nat) : Bool := rt4 p.ir (roAt p.rods (reAt p.res j).rd.toNat).gr (reAt p.res j) len (u.at_ (reAt p.res j).rd.toNat)
/-- how many of the first k readings of a time are not right -/
def wk4 (p : P4) (wh : Int) (u : W4) (len : Int) (k : Nat) : Nat := ((List.range k).filter fun j => decide ((reAt p.res j).wh = wh) && !rg4 p u len j).length
def wr4 (p : P4) (wh : Int) (u : W4) (len : Int) : Nat := wk4 p wh u len p.res.length
theorem wk4_succ {p : P4} {wh : Int} {u : W4} {len : Int} {k : Nat} : wk4 p wh u len (k + 1) = wk4 p wh u len k + (bif decide ((reAt p.res k).wh = wh) && !rg4 p u len k then 1 else 0) := by
  unfold wk4
  rw [List.range_succ, List.filter_append, List.length_append]
  cases h : (decide ((reAt p.res k).wh = wh) && !rg4 p u len k) <;> simp [h]
theorem wk4_le {p : P4} {wh : Int} {u : W4} {len : Int} {k : Nat} : wk4 p wh u len k ≤ k := by
  unfold wk4
  exact Nat.le_trans (List.length_filter_le _ _) (by simp)
/-- all lengths that there can be -/
def ln4 (p : P4) : List Int := ups p.glo p.ghi
/-- the groups of a time -/
def gr4 (p : P4) (wh : Int) (u : W4) : List (Nat × List Int) :=
  ((List.range (p.res.length + 1)).filter fun n => (ln4 p).any fun l => wr4 p wh u l == n).map fun n => (n, (ln4 p).filter fun l => wr4 p wh u l == n)
/-- all lengths of the rods, the first i of which are known, r are left -/
def wo4 (rods : List Ro4) : Nat → Nat → W4 → List W4
  | _, 0, u => [u]
  | i, r + 1, u => (ups ((roAt rods i).lg - (roAt rods i).we) (roAt rods i).lg).flatMap fun n => wo4 rods (i + 1) r (u.put i n)
def ws4 (p : P4) : List W4 := wo4 p.rods 0 p.rods.length ⟨0, 0, 0, 0⟩
structure Bu4 where
  u : W4
  b : Nat × List Int
  a : Nat × List Int
def bs4 (p : P4) : List Bu4 := (ws4 p).flatMap fun u => (gr4 p 1 u).flatMap fun g => (gr4 p 2 u).map fun h => ⟨u, g, h⟩
def tr4 (p : P4) : List Bu4 := (bs4 p).filter fun x => decide (((x.b.1 + x.a.1 : Nat) : Int) ≤ p.wr)
/-- a truth: the lengths of the rods, the length before, the length after -/
def Tr4 (p : P4) (u : W4) (b a : Int) : Prop := u ∈ ws4 p ∧ b ∈ ln4 p ∧ a ∈ ln4 p ∧ ((wr4 p 1 u b + wr4 p 2 u a : Nat) : Int) ≤ p.wr
theorem mem_gr4 {p : P4} {wh : Int} {u : W4} {g : Nat × List Int} : g ∈ gr4 p wh u ↔ (∃ l ∈ ln4 p, wr4 p wh u l = g.1) ∧ g.2 = (ln4 p).filter fun l => wr4 p wh u l == g.1 := by
  unfold gr4
  rw [List.mem_map]
  constructor
  · rintro ⟨n, hn, rfl⟩
    rw [List.mem_filter, List.any_eq_true] at hn
    obtain ⟨-, l, hl, hw⟩ := hn
    exact ⟨⟨l, hl, by simpa using hw⟩, rfl⟩
  · rintro ⟨⟨l, hl, hw⟩, h2⟩
    refine ⟨g.1, List.mem_filter.2 ⟨List.mem_range.2 ?_, List.any_eq_true.2 ⟨l, hl, by simpa using hw⟩⟩, ?_⟩
    · have := wk4_le (p := p) (wh := wh) (u := u) (len := l) (k := p.res.length)
      unfold wr4 at hw
      omega
    · rw [← h2]
theorem gr4_mem {p : P4} {wh : Int} {u : W4} {g : Nat × List Int} (h : g ∈ gr4 p wh u) {l : Int} : l ∈ g.2 ↔ l ∈ ln4 p ∧ wr4 p wh u l = g.1 := by
  rw [(mem_gr4.1 h).2, List.mem_filter]; simp
theorem gr4_ne {p : P4} {wh : Int} {u : W4} {g : Nat × List Int} (h : g ∈ gr4 p wh u) : g.2 ≠ [] := by
  obtain ⟨⟨l, hl, hw⟩, -⟩ := mem_gr4.1 h
  intro e
  have := (gr4_mem h).2 ⟨hl, hw⟩
  rw [e] at this
  cases this
theorem gr4_of {p : P4} {wh : Int} {u : W4} {l : Int} (hl : l ∈ ln4 p) : ∃ g ∈ gr4 p wh u, l ∈ g.2 ∧ g.1 = wr4 p wh u l :=
  ⟨(wr4 p wh u l, (ln4 p).filter fun l' => wr4 p wh u l' == wr4 p wh u l), mem_gr4.2 ⟨⟨l, hl, rfl⟩, rfl⟩, List.mem_filter.2 ⟨hl, by simp⟩, rfl⟩
theorem mem_bs4 {p : P4} {x : Bu4} : x ∈ bs4 p ↔ x.u ∈ ws4 p ∧ x.b ∈ gr4 p 1 x.u ∧ x.a ∈ gr4 p 2 x.u := by
  unfold bs4
  simp only [List.mem_flatMap, List.mem_map]
  constructor
  · rintro ⟨u, hu, g, hg, h, hh, rfl⟩; exact ⟨hu, hg, hh⟩
  · rintro ⟨hu, hg, hh⟩; exact ⟨x.u, hu, x.b, hg, x.a, hh, rfl⟩
theorem mem_tr4 {p : P4} {x : Bu4} : x ∈ tr4 p ↔ (x.u ∈ ws4 p ∧ x.b ∈ gr4 p 1 x.u ∧ x.a ∈ gr4 p 2 x.u) ∧ ((x.b.1 + x.a.1 : Nat) : Int) ≤ p.wr := by
  unfold tr4; rw [List.mem_filter, mem_bs4]; simp
/-- the truths are what lies in the bundles -/
theorem tr4_iff {p : P4} {u : W4} {b a : Int} : Tr4 p u b a ↔ ∃ x ∈ tr4 p, x.u = u ∧ b ∈ x.b.2 ∧ a ∈ x.a.2 := by
  constructor
  · rintro ⟨hu, hb, ha, hw⟩
    obtain ⟨g, hg, hg2, hg1⟩ := gr4_of (wh := 1) (u := u) hb
    obtain ⟨h, hh, hh2, hh1⟩ := gr4_of (wh := 2) (u := u) ha
    exact ⟨⟨u, g, h⟩, mem_tr4.2 ⟨⟨hu, hg, hh⟩, by show ((g.1 + h.1 : Nat) : Int) ≤ p.wr; rw [hg1, hh1]; exact hw⟩, rfl, hg2, hh2⟩
  · rintro ⟨x, hx, rfl, hb, ha⟩
    obtain ⟨⟨h1, h2, h3⟩, h4⟩ := mem_tr4.1 hx
    obtain ⟨b1, b2⟩ := (gr4_mem h2).1 hb
    obtain ⟨a1, a2⟩ := (gr4_mem h3).1 ha
    exact ⟨h1, b1, a1, by rw [b2, a2]; exact h4⟩

end Go.Proofs.YtcbeiadimchknaaGreat
