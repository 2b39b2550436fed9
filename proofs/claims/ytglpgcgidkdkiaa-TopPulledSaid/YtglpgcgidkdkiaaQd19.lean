/- A number within bounds; Slices of slices of numbers: read as lists of lists; made by the call itself; Chains (layer 2): deeds and sights in plain Lean, and in memory; how long a cable is; append onto a slice that has no room: a new row; what was there stays as it was; append onto a row of the call's own that holds something: what the elder row held is held still. -/
import Derived.Test.YtglpgcgidkdkiaaQd02
namespace Go.Proofs.Ytglpgcgidkdkiaa
open Go.RowKit
open Go.Sort (grow)
set_option linter.unusedVariables false
set_option linter.unusedSimpArgs false

def wn (n a b : Int) : Bool := decide (a ≤ n) && decide (n ≤ b)
theorem wn_true {x a b : Int} : wn x a b = true ↔ a ≤ x ∧ x ≤ b := by simp [wn]
theorem own_at {w : World} {base : Nat} {e : TypeId} {g n c k : Nat} {xs : List Int} (h : w.ownsRow base e 1 (.slice (some ⟨g, 0, none⟩) n c) n (xs.flatMap encI)) (hl : xs.length = n) (hk : k < n) :
    w.cell? ⟨g, k, none⟩ = some (.int .i64 (iAt xs k)) := by
  have h1 := (h.cellAt (k * 1 + 0) (by omega)).trans (flat_get (d := (0 : Int)) encI_len xs k 0 (by omega) (by omega))
  simpa [encI, iAt] using h1

end Go.Proofs.Ytglpgcgidkdkiaa

namespace Go.Proofs.Ytglpgcgidkdkiaa
open Go.RowKit
open Go.Sort (grow)
set_option linter.unusedVariables false
set_option linter.unusedSimpArgs false

structure Hd where
  A : Option Addr
  n : Nat
  c : Nat
def encH (h : Hd) : List Value := [.slice h.A h.n h.c]
theorem encH_len (h : Hd) : (encH h).length = 1 := rfl
theorem encH_one (x : Hd) : ∀ u ∈ encH x, u.oneCell' = true := by
  intro u hu; simp only [encH, List.mem_cons, List.not_mem_nil, or_false] at hu; subst hu; rfl
def hAt (hs : List Hd) (k : Nat) : Hd := hs.getD k ⟨none, 0, 0⟩
def xAt (xss : List (List Int)) (k : Nat) : List Int := xss.getD k []
theorem hAt_lt {hs : List Hd} {h : Hd} {k : Nat} (hk : k < hs.length) : hAt (hs ++ [h]) k = hAt hs k := by
  unfold hAt; rw [List.getD_eq_getElem?_getD, List.getD_eq_getElem?_getD, List.getElem?_append_left hk]
theorem hAt_eq {hs : List Hd} {h : Hd} : hAt (hs ++ [h]) hs.length = h := by
  unfold hAt; rw [List.getD_eq_getElem?_getD]; simp
theorem xAt_lt {hs : List (List Int)} {h : List Int} {k : Nat} (hk : k < hs.length) : xAt (hs ++ [h]) k = xAt hs k := by
  unfold xAt; rw [List.getD_eq_getElem?_getD, List.getD_eq_getElem?_getD, List.getElem?_append_left hk]
theorem xAt_eq {hs : List (List Int)} {h : List Int} : xAt (hs ++ [h]) hs.length = h := by
  unfold xAt; rw [List.getD_eq_getElem?_getD]; simp
theorem IntsAt.grown {w w' : World} {A : Option Addr} {n : Nat} {xs : List Int} {row : Option Nat} (h : IntsAt w A n xs) (hg : w.grownBy w' row) (hne : ∀ a, A = some a → row ≠ some a.block) : IntsAt w' A n xs := by
  refine ⟨h.1, fun hn => ?_⟩
  obtain ⟨b, off, rfl, hb, hc⟩ := h.2 hn
  exact ⟨b, off, rfl, Nat.lt_of_lt_of_le hb hg.size, fun k hk j u hu => (World.cell?_of_block (hg.block b hb (fun e => hne _ rfl e.symm))).trans (hc k hk j u hu)⟩
/-- a slice of slices reads as a list of lists -/
structure SsAt (w : World) (A : Option Addr) (n : Nat) (hs : List Hd) (xss : List (List Int)) : Prop where
  sl : SlAt encH 1 ⟨none, 0, 0⟩ w A n hs
  xl : xss.length = n
  inn : ∀ k, k < n → IntsAt w (hAt hs k).A (hAt hs k).n (xAt xss k)
  bd : ∀ k, k < n → ∀ a, (hAt hs k).A = some a → a.block < w.heap.size
theorem SsAt.nil (w : World) : SsAt w none 0 [] [] := ⟨⟨rfl, fun h => absurd h (by omega)⟩, rfl, fun k hk => absurd hk (by omega), fun k hk => absurd hk (by omega)⟩
theorem SsAt.later {w w' : World} {A : Option Addr} {n : Nat} {hs : List Hd} {xss : List (List Int)} (h : SsAt w A n hs xss) (hb : Below w.heap.size w w') : SsAt w' A n hs xss :=
  ⟨⟨h.sl.1, h.sl.2.later hb⟩, h.xl, fun k hk => (h.inn k hk).later hb, fun k hk a ha => Nat.lt_of_lt_of_le (h.bd k hk a ha) hb.size⟩
theorem SsAt.get {w : World} {A : Option Addr} {n : Nat} {hs : List Hd} {xss : List (List Int)} (h : SsAt w A n hs xss) {k : Nat} (hk : k < n) :
    ∃ b off, A = some ⟨b, off, none⟩ ∧ b < w.heap.size ∧ w.cell? ⟨b, off + k, none⟩ = some (.slice (hAt hs k).A (hAt hs k).n (hAt hs k).c) ∧ IntsAt w (hAt hs k).A (hAt hs k).n (xAt xss k) := by
  obtain ⟨b, off, e, hb, hc⟩ := h.sl.2 (by omega)
  have h1 := hc k hk 0 _ rfl
  rw [Nat.mul_one] at h1
  exact ⟨b, off, e, hb, h1, h.inn k hk⟩
/-- a slice of slices that the call itself makes -/
structure OwnSs (base : Nat) (e : TypeId) (w : World) (v : Value) (n : Nat) (hs : List Hd) (xss : List (List Int)) : Prop where
  own : w.ownsRow base e 1 v n (hs.flatMap encH)
  hl : hs.length = n
  xl : xss.length = n
  inn : ∀ k, k < n → IntsAt w (hAt hs k).A (hAt hs k).n (xAt xss k) ∧ ∀ a, (hAt hs k).A = some a → v.ownBlock ≠ some a.block ∧ a.block < w.heap.size
section
variable {base : Nat} {e : TypeId} {w w' : World} {v : Value} {n : Nat} {hs : List Hd} {xss : List (List Int)}
theorem OwnSs.nil (w : World) (base : Nat) (e : TypeId) : OwnSs base e w (.slice none 0 0) 0 [] [] :=
  ⟨World.ownsRow_nil w base e 1, rfl, rfl, fun k hk => absurd hk (by omega)⟩
theorem OwnSs.later (h : OwnSs base e w v n hs xss) (hb : Below w.heap.size w w') : OwnSs base e w' v n hs xss :=
  ⟨own_below h.own hb, h.hl, h.xl, fun k hk => ⟨(h.inn k hk).1.later hb, fun a ha => ⟨((h.inn k hk).2 a ha).1, Nat.lt_of_lt_of_le ((h.inn k hk).2 a ha).2 hb.size⟩⟩⟩
theorem OwnSs.ss (h : OwnSs base e w v n hs xss) : ∃ A c, v = .slice A n c ∧ SsAt w A n hs xss := by
  obtain ⟨A, c, rfl, -, hsl⟩ := SlAt.of_own (d := (⟨none, 0, 0⟩ : Hd)) encH_len h.own h.hl
  exact ⟨A, c, rfl, hsl, h.xl, fun k hk => (h.inn k hk).1, fun k hk a ha => ((h.inn k hk).2 a ha).2⟩
theorem OwnSs.push (h : OwnSs base e w v n hs xss) {o : Obj} {v' : Value} {x : Hd} {xs : List Int} (hx : IntsAt w x.A x.n xs) (hne : ∀ a, x.A = some a → v.ownBlock ≠ some a.block ∧ a.block < w.heap.size)
    (ho : w'.ownsRow base e 1 v' (n + 1) ((hs ++ [x]).flatMap encH)) (hg : (w.alloc o).grownBy w' v.ownBlock) (ha : v'.ownBlock = v.ownBlock ∨ v'.ownBlock = some (w.alloc o).heap.size) : OwnSs base e w' v' (n + 1) (hs ++ [x]) (xss ++ [xs]) := by
  have hsz := hg.size
  simp only [World.size_alloc] at hsz
  have one : ∀ (y : Hd) (ys : List Int), IntsAt w y.A y.n ys → (∀ a, y.A = some a → v.ownBlock ≠ some a.block ∧ a.block < w.heap.size) → IntsAt w' y.A y.n ys ∧ ∀ a, y.A = some a → v'.ownBlock ≠ some a.block ∧ a.block < w'.heap.size := by
    intro y ys h1 h2
    refine ⟨IntsAt.grown (h1.later ((Below.refl _ _).alloc (Nat.le_refl _) o)) hg fun a e => (h2 a e).1, fun a e => ⟨?_, by have := (h2 a e).2; omega⟩⟩
    rcases ha with ha | ha
    · rw [ha]; exact (h2 a e).1
    · rw [ha]
      intro e'
      have h3 := (h2 a e).2
      have h4 := Option.some.inj e'
      simp at h4
      omega
  refine ⟨ho, by simp [h.hl], by simp [h.xl], fun k hk => ?_⟩
  rcases Nat.lt_succ_iff_lt_or_eq.1 hk with h' | rfl
  · rw [hAt_lt (by rw [h.hl]; exact h'), xAt_lt (by rw [h.xl]; exact h')]
    exact one _ _ (h.inn k h').1 (h.inn k h').2
  · have e1 := hAt_eq (hs := hs) (h := x)
    have e2 := xAt_eq (hs := xss) (h := xs)
    rw [h.hl] at e1
    rw [h.xl] at e2
    rw [e1, e2]
    exact one _ _ hx hne
/-- where a row of one's own lies -/
theorem own_addr {size : Nat} {A : Option Addr} {c : Nat} {xs : List Value} (h : w.ownsRow base e size (.slice A n c) n xs) : ∀ a, A = some a → base ≤ a.block ∧ a.block < w.heap.size := by
  intro a ha
  subst ha
  rcases h.2 with ⟨h1, h2⟩ | ⟨g, cap, cur, hv, hb, hh, r⟩
  · first | cases h1 | cases h2
  · cases hv
    exact ⟨hb, (Array.getElem?_eq_some_iff.1 hh).1⟩
end

end Go.Proofs.Ytglpgcgidkdkiaa

namespace Go.Proofs.Ytglpgcgidkdkiaa
open Go.RowKit
open Go.Sort (grow)
set_option linter.unusedVariables false
set_option linter.unusedSimpArgs false

structure Dd where
  wh : Int
  pl : Int
  fr : Int
  ba : Int
  sm : Int
def encD (d : Dd) : List Value := [.int .i64 d.wh, .int .i64 d.pl, .int .i64 d.fr, .int .i64 d.ba, .int .i64 d.sm]
theorem encD_len (x : Dd) : (encD x).length = 5 := rfl
theorem encD_one (x : Dd) : ∀ u ∈ encD x, u.oneCell' = true := by
  intro u hu; simp only [encD, List.mem_cons, List.not_mem_nil, or_false] at hu; rcases hu with rfl | rfl | rfl | rfl | rfl <;> rfl
def ddAt (ds : List Dd) (k : Nat) : Dd := ds.getD k ⟨0, 0, 0, 0, 0⟩
def DdsAt (w : World) (A : Option Addr) (n : Nat) (ds : List Dd) : Prop := SlAt encD 5 ⟨0, 0, 0, 0, 0⟩ w A n ds
section
variable {w w' : World} {A : Option Addr} {n : Nat}
theorem DdsAt.later {ds : List Dd} (h : DdsAt w A n ds) (hb : Below w.heap.size w w') : DdsAt w' A n ds := ⟨h.1, h.2.later hb⟩
theorem DdsAt.get {ds : List Dd} (h : DdsAt w A n ds) {k : Nat} (hk : k < n) :
    ∃ b off, A = some ⟨b, off, none⟩ ∧ b < w.heap.size ∧ w.cell? ⟨b, off + k * 5, none⟩ = some (.int .i64 (ddAt ds k).wh) ∧ w.cell? ⟨b, off + k * 5 + 1, none⟩ = some (.int .i64 (ddAt ds k).pl) ∧
      w.cell? ⟨b, off + k * 5 + 2, none⟩ = some (.int .i64 (ddAt ds k).fr) ∧ w.cell? ⟨b, off + k * 5 + 3, none⟩ = some (.int .i64 (ddAt ds k).ba) ∧ w.cell? ⟨b, off + k * 5 + 4, none⟩ = some (.int .i64 (ddAt ds k).sm) := by
  obtain ⟨b, off, e, hb, hc⟩ := h.2 (by omega)
  exact ⟨b, off, e, hb, hc k hk 0 _ rfl, hc k hk 1 _ rfl, hc k hk 2 _ rfl, hc k hk 3 _ rfl, hc k hk 4 _ rfl⟩
end
/-- by how many links a cable grows by a deed -/
def gr2 (d : Dd) : Int := bif d.wh == 1 then 1 else (bif d.wh == 2 then -1 else 0)
/-- how many links there are behind k deeds -/
def ln2 (ds : List Dd) (k : Nat) : Int := ((List.range k).map fun i => gr2 (ddAt ds i)).sum
theorem ln2_0 {ds : List Dd} : ln2 ds 0 = 0 := rfl
theorem ln2_succ {ds : List Dd} {k : Nat} : ln2 ds (k + 1) = ln2 ds k + gr2 (ddAt ds k) := by
  unfold ln2
  rw [List.range_succ, List.map_append, List.sum_append]; simp
theorem gr2_bd {d : Dd} : -1 ≤ gr2 d ∧ gr2 d ≤ 1 := by
  unfold gr2
  cases d.wh == 1 <;> cases d.wh == 2 <;> simp
theorem ln2_bd {ds : List Dd} : ∀ k : Nat, -(k : Int) ≤ ln2 ds k ∧ ln2 ds k ≤ k := by
  intro k
  induction k with
  | zero => rw [ln2_0]; omega
  | succ k ih =>
    have := gr2_bd (d := ddAt ds k)
    rw [ln2_succ]; omega
def dk2 (d : Dd) (m : Int) : Bool :=
  bif d.wh == 1 then wn d.fr 0 2 && (wn d.pl 0 m && (wn d.ba 0 99 && wn d.sm 0 99)) else
    bif d.wh == 2 then wn d.fr 0 2 && (wn d.pl 0 (m - 1) && ((d.ba == 0) && (d.sm == 0))) else
      bif d.wh == 3 || d.wh == 4 then (d.pl == 0) && ((d.fr == 0) && ((d.ba == 0) && (d.sm == 0))) else false
def sk2 (s : Dd) (nd : Nat) (ds : List Dd) : Bool := wn s.wh 0 nd && (wn s.fr 0 1 && (wn s.pl 0 (ln2 ds s.wh.toNat - 1) && (wn s.ba (-1) 99 && wn s.sm (-1) 99)))
/-- a chain: its deeds, its sights (after, at, from, bar, smith), how many sights can be wrong -/
def ck2 (ds ss : List Dd) (nd ns : Nat) (wr : Int) : Bool :=
  decide (nd ≤ 12) && (decide (ns ≤ 8) && (wn wr 0 8 && (allN nd (fun k => dk2 (ddAt ds k) (ln2 ds k)) && allN ns (fun k => sk2 (ddAt ss k) nd ds))))

end Go.Proofs.Ytglpgcgidkdkiaa

namespace Go.Proofs.Ytglpgcgidkdkiaa
open Go.RowKit
open Go.Sort (grow)
set_option linter.unusedVariables false
set_option linter.unusedSimpArgs false

section
variable {P : Program} (w : World)
theorem run_append_new {α : Type} {enc : α → List Value} {d : α} (t ty e : TypeId) (size bytes : Nat) (E : ElemT P t e size bytes) (hs : ∀ x, (enc x).length = size)
    (B : Option Addr) (n cap : Nat) (xs : List α) (hS : SlAt enc size d w B n xs) (hB : B = none → n = 0 ∧ cap = 0)
    (A : Option Addr) (m c : Nat) (ys : List α) (hr : SlAt enc size d w A m ys) (hm : 0 < m) (hg : cap < n + m) (hsz : n + m ≤ 100000) :
    ∃ c' w', (Builtin.append_ #[t, t] ty #[.slice B n cap, .slice A m c]).run P w = .ok (.slice (some ⟨w.heap.size, 0, none⟩) (n + m) c') w' ∧
      w'.ownsRow w.heap.size e size (.slice (some ⟨w.heap.size, 0, none⟩) (n + m) c') (n + m) ((xs ++ ys).flatMap enc) ∧ Below w.heap.size w w' := by
  obtain ⟨i, z, hi, hz, hsize, hby, hzs⟩ := E.info
  have ht := E.ht
  subst hsize
  subst hby
  have hsm := E.small
  have hx := hS.reads hs E.pos
  have hy := hr.reads hs E.pos
  have h63 : n + m ≤ maxLen := by unfold maxLen; omega
  have hbytes : (n + m) * i.bytes ≤ 140737488355328 := by
    have : (n + m) * i.bytes ≤ 100000 * 1000 := Nat.mul_le_mul hsz hsm
    omega
  have hlen : (xs.flatMap enc ++ ys.flatMap enc).length = (n + m) * i.size := by rw [List.length_append, hx.1, hy.1, Nat.add_mul]
  have grown : ∀ (old : Nat), old < n + m →
      (w.drew.alloc (.cells ((xs.flatMap enc).toArray ++ (ys.flatMap enc).toArray ++ Builtin.zeroCells z.cells (grownCap w (n + m) old e - (n + m))) e)).ownsRow w.heap.size e i.size
        (.slice (some ⟨w.heap.size, 0, none⟩) (n + m) (grownCap w (n + m) old e)) (n + m) ((xs ++ ys).flatMap enc) ∧
      Below w.heap.size w (w.drew.alloc (.cells ((xs.flatMap enc).toArray ++ (ys.flatMap enc).toArray ++ Builtin.zeroCells z.cells (grownCap w (n + m) old e - (n + m))) e)) := by
    intro old ho
    have hge := grownCap_ge w (n + m) old e
    have hcm : grownCap w (n + m) old e ≤ maxLen := grownCap_le_maxLen w (n + m) old e h63
    rw [List.flatMap_append]
    refine ⟨⟨hlen, .inr ⟨w.heap.size, _, _, rfl, Nat.le_refl _, heap_alloc_new w.drew _, hge, hcm, ?_, ?_⟩⟩, ((Below.refl _ w).drew).alloc (Nat.le_refl _) _⟩
    · simp only [Array.size_append, List.size_toArray, size_zeroCells, hzs, hx.1, hy.1, ← Nat.add_mul]
      congr 1
      omega
    · simp only [Array.toList_append, List.append_assoc]
      rw [← List.append_assoc, ← hlen]
      exact List.take_left
  obtain ⟨a, rfl, -, hnews⟩ := hy.2 hm
  cases B with
  | none =>
    obtain ⟨rfl, rfl⟩ := hB rfl
    have hx0 : xs = [] := List.eq_nil_of_length_eq_zero hS.1
    subst hx0
    have hr' := run_append_nil (P := P) w t ty e i z ht hi hz a m c (ys.flatMap enc) hy.1 hnews hm (by omega) (by have hb := hbytes; simp only [Nat.zero_add] at hb; omega)
    have hgr := grown 0 (by omega)
    simp only [Nat.zero_add, List.nil_append, List.flatMap_nil, Array.empty_append] at hgr ⊢
    exact ⟨_, _, hr', hgr.1, hgr.2⟩
  | some b =>
    have holds : ∀ j u, (xs.flatMap enc)[j]? = some u → w.cell? (b.add j) = some u := by
      intro j u hu
      rcases Nat.eq_zero_or_pos n with rfl | hn
      · have hx0 : xs = [] := List.eq_nil_of_length_eq_zero hS.1
        subst hx0
        simp at hu
      · obtain ⟨b', e', -, hc⟩ := hx.2 hn
        cases e'
        exact hc j u hu
    have hr' := run_append_grow (P := P) w t ty e i z ht hi hz b n cap (xs.flatMap enc) hx.1 holds a m c (ys.flatMap enc) hy.1 hnews hg (by omega) (growslice_fits (by omega) hbytes)
    have hgr := grown cap (by omega)
    exact ⟨_, _, hr', hgr.1, hgr.2⟩
theorem wpList_append_N {α : Type} {enc : α → List Value} {d : α} {ops : Array Oper} {rest : List Oper} {o : Oper} {a : Act} {Q : Exit → Act → World → Prop} (hgd : o.guard = none) (s x : Operand) (t : TypeId)
    (ho : o.op = .call { callee := .builtin .append, args := #[s, x], argTypes := #[t, t] })
    (e : TypeId) (size bytes : Nat) (E : ElemT P t e size bytes) (hs : ∀ x, (enc x).length = size)
    (B : Option Addr) (n cap : Nat) (xs : List α) (hv : a.eval s = .slice B n cap) (hS : SlAt enc size d w B n xs) (hB : B = none → n = 0 ∧ cap = 0)
    (A : Option Addr) (m c : Nat) (ys : List α) (hx : a.eval x = .slice A m c) (hr : SlAt enc size d w A m ys) (hm : 0 < m) (hg : cap < n + m) (hsz : n + m ≤ 100000)
    (h : ∀ c' w', w'.ownsRow w.heap.size e size (.slice (some ⟨w.heap.size, 0, none⟩) (n + m) c') (n + m) ((xs ++ ys).flatMap enc) → Below w.heap.size w w' → wpList P ops Q rest (a.put o.dst (.slice (some ⟨w.heap.size, 0, none⟩) (n + m) c')) w') : wpList P ops Q (o :: rest) a w := by
  refine wpList_plain hgd fun K hK => ?_
  obtain ⟨c', w', hrun, h1, h2⟩ := run_append_new (P := P) w t o.type e size bytes E hs B n cap xs hS hB A m c ys hr hm hg hsz
  unfold Oper.wp execOp
  simp only [ho, resolve, invoke, builtin, Sem.run_bind, Sem.run_pure, Result.andThen_ok, List.map_toArray, List.map_cons, List.map_nil, hv, hx, hrun]
  exact hK _ _ (h c' w' h1 h2)
end

end Go.Proofs.Ytglpgcgidkdkiaa

namespace Go.Proofs.Ytglpgcgidkdkiaa
open Go.RowKit
open Go.Sort (grow)
set_option linter.unusedVariables false
set_option linter.unusedSimpArgs false

section
variable {P : Program} (w : World)
theorem run_append_K {α : Type} {enc : α → List Value} {d : α} (t ty e : TypeId) (base size bytes : Nat) (E : ElemT P t e size bytes) (hs : ∀ x, (enc x).length = size) (h1 : ∀ x, ∀ u ∈ enc x, u.oneCell' = true)
    (g n cap : Nat) (xs : List α) (hown : w.ownsRow base e size (.slice (some ⟨g, 0, none⟩) n cap) n (xs.flatMap enc)) (hxl : xs.length = n)
    (A : Option Addr) (m c : Nat) (ys : List α) (hr : SlAt enc size d w A m ys) (hm : 0 < m) (hsz : n + m ≤ 100000) (hbase : base ≤ w.heap.size) :
    ∃ v' w', (Builtin.append_ #[t, t] ty #[.slice (some ⟨g, 0, none⟩) n cap, .slice A m c]).run P w = .ok v' w' ∧
      w'.ownsRow base e size v' (n + m) ((xs ++ ys).flatMap enc) ∧ w.grownBy w' (some g) ∧ (v'.ownBlock = some g ∨ v'.ownBlock = some w.heap.size) ∧ ∀ j, j < n * size → w'.cell? ⟨g, j, none⟩ = w.cell? ⟨g, j, none⟩ := by
  have hgl := (hown.lt g rfl).2
  by_cases hg : cap < n + m
  · obtain ⟨A', c', e', -, hS⟩ := SlAt.of_own (d := d) hs hown hxl
    cases e'
    obtain ⟨c2, w', k1, k2, k3⟩ := run_append_new (P := P) w t ty e size bytes E hs (some ⟨g, 0, none⟩) n cap xs hS (fun h => by cases h) A m c ys hr hm hg hsz
    refine ⟨_, w', k1, ?_, ⟨k3.os, k3.tape, k3.output, k3.size, fun k hk _ => k3.block k hk⟩, .inr rfl, fun j _ => k3.cell (p := ⟨g, j, none⟩) hgl⟩
    obtain ⟨a1, a2⟩ := k2
    refine ⟨a1, ?_⟩
    rcases a2 with a2 | ⟨g', cap', cur', h1', h2', h3'⟩
    · exact .inl a2
    · exact .inr ⟨g', cap', cur', h1', Nat.le_trans hbase h2', h3'⟩
  · obtain ⟨i, z, hi, hz, hsize, hby, hzs⟩ := E.info
    have ht := E.ht
    have hsm := E.small
    have hb : (n + m) * bytes ≤ 140737488355328 := by
      have : (n + m) * bytes ≤ 100000 * 1000 := Nat.mul_le_mul hsz hsm
      omega
    have hone := oneCell_flat h1 ys
    obtain ⟨v', w', k1, k2, k3, k4⟩ := run_append_any (P := P) w base t ty e i z size bytes ht hi hz hsize hby hzs E.pos _ n (xs.flatMap enc) hown w.heap.size A m c (ys.flatMap enc) (hr.reads hs E.pos) hone (by unfold maxLen; omega) hb hbase
    have hv : v' = .slice (some ⟨g, 0, none⟩) (n + m) cap := by
      rcases hown.2 with ⟨h0, -⟩ | ⟨g', cap', cur, h0, hbg, hh, hnc, hcm, hcs, htake⟩
      · cases h0
      · injection h0 with e1 e2 e3
        injection e1 with e1
        injection e1 with e1
        subst e1 e3
        have hy := hr.reads hs E.pos
        obtain ⟨ad, rfl, -, hnews⟩ := hy.2 hm
        subst hsize
        have hfit : n * i.size + (ys.flatMap enc).length ≤ cur.size := by rw [hy.1, hcs, ← Nat.add_mul]; exact Nat.mul_le_mul_right _ (by omega)
        have hr2 := run_append_room (P := P) w t ty e i ht hi g n cap cur hh ad m c (ys.flatMap enc) hy.1 hnews hone (by omega) hfit
        rw [hr2] at k1
        injection k1 with k1
        exact k1.symm
    subst hv
    refine ⟨_, w', k1, by rw [List.flatMap_append]; exact k2, k3, .inl rfl, fun j hj => ?_⟩
    have hl : (xs.flatMap enc).length = n * size := by rw [flat_len hs, hxl]
    have c1 := k2.cellAt j (by rw [Nat.add_mul]; omega)
    have c2 := hown.cellAt j hj
    rw [List.getElem?_append_left (by omega)] at c1
    exact c1.trans c2.symm
theorem step_append_K {α : Type} {enc : α → List Value} {d : α} {ops : Array Oper} {o : Oper} {a : Act} {K : Act → World → Prop} {Q : Exit → Act → World → Prop} {Z : Prop} (hgd : o.guard = none) (s x : Operand) (t : TypeId)
    (ho : o.op = .call { callee := .builtin .append, args := #[s, x], argTypes := #[t, t] })
    (base : Nat) (e : TypeId) (size bytes : Nat) (E : ElemT P t e size bytes) (hs : ∀ x, (enc x).length = size) (h1 : ∀ x, ∀ u ∈ enc x, u.oneCell' = true)
    (g n cap : Nat) (xs : List α) (hv : a.eval s = .slice (some ⟨g, 0, none⟩) n cap) (hown : w.ownsRow base e size (.slice (some ⟨g, 0, none⟩) n cap) n (xs.flatMap enc)) (hxl : xs.length = n)
    (A : Option Addr) (m c : Nat) (ys : List α) (hx : a.eval x = .slice A m c) (hr : SlAt enc size d w A m ys) (hm : 0 < m)
    (hsz : n + m ≤ 100000) (hbase : base ≤ w.heap.size)
    (h : ∀ v' w', w'.ownsRow base e size v' (n + m) ((xs ++ ys).flatMap enc) → w.grownBy w' (some g) → (v'.ownBlock = some g ∨ v'.ownBlock = some w.heap.size) → (∀ j, j < n * size → w'.cell? ⟨g, j, none⟩ = w.cell? ⟨g, j, none⟩) → K (a.put o.dst v') w') :
    if Region.wanted o (yielded ops a.tmps) = true then Oper.wp P o a w K Q else Z := by
  have hw : Region.wanted o (yielded ops a.tmps) = true := by simp [Region.wanted, hgd]
  rw [if_pos hw]
  obtain ⟨v', w', hrun, k2, k3, k4, k5⟩ := run_append_K (P := P) w t o.type e base size bytes E hs h1 g n cap xs hown hxl A m c ys hr hm hsz hbase
  unfold Oper.wp execOp
  simp only [ho, resolve, invoke, builtin, Sem.run_bind, Sem.run_pure, Result.andThen_ok, List.map_toArray, List.map_cons, List.map_nil, hv, hx, hrun]
  exact h v' w' k2 k3 k4 k5
end

end Go.Proofs.Ytglpgcgidkdkiaa
