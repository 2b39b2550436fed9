/- A truth of layer 4 as the specification has it, and what the answers say of it; What the specification (layer 4) tries: all lengths of the rods as lists, in plain terms; The specification's Sorted (layer 2), walked in layer 4: numbers of a slice between two, each once, ascending. -/
import Derived.Test.YtmmgkmdfecnkdaaQa32
import Derived.Test.YtmmgkmdfecnkdaaQa34
import Derived.Test.YtmmgkmdfecnkdaaQa23
import Derived.Test.YtmmgkmdfecnkdaaQa03
import Derived.Test.YtmmgkmdfecnkdaaQa16
import Derived.Shelf.Abstract
import Derived.Laws.EntriesVeiled
import Derived.Handy
import Derived.Deep.DrawnRows
import Derived.Deep.DeepCutAuto
namespace Go.Proofs.Ytmmgkmdfecnkdaa
open Go.RowKit
open Go.Sort (grow)
set_option linter.unusedVariables false
set_option linter.unusedSimpArgs false

/-- lengths of the rods out of a list -/
def uT4 (us : List Int) : W4 := ⟨iAt us 0, iAt us 1, iAt us 2, iAt us 3⟩
theorem uT4_at {us : List Int} {k : Nat} (h : k ≤ 3) : (uT4 us).at_ k = iAt us k := by
  match k, h with
  | 0, _ => rfl
  | 1, _ => rfl
  | 2, _ => rfl
  | 3, _ => rfl
/-- lengths are a truth -/
def isT4 (p : P4) (us : List Int) (b a : Int) : Bool :=
  wn b p.glo p.ghi && (wn a p.glo p.ghi && (us.length == p.rods.length && (allN us.length (fun k => wn (iAt us k) ((roAt p.rods k).lg - (roAt p.rods k).we) (roAt p.rods k).lg) && decide ((cw4 (rgT4 p us b a) p.res.length : Int) ≤ p.wr))))
theorem cw4_wk {p : P4} {u : W4} {b a : Int} (h : ∀ k, k < p.res.length → (reAt p.res k).wh = 1 ∨ (reAt p.res k).wh = 2) : ∀ k, k ≤ p.res.length → cw4 (fun j => rg4 p u (if (reAt p.res j).wh = 2 then a else b) j) k = wk4 p 1 u b k + wk4 p 2 u a k
  | 0, _ => rfl
  | k + 1, hk => by
    have ih := cw4_wk (u := u) (b := b) (a := a) h k (by omega)
    rw [cw4_succ, wk4_succ, wk4_succ, ih]
    rcases h k (by omega) with e | e
    · rw [e]
      simp
      omega
    · rw [e]
      simp
      omega
theorem rgT4_eq {nr nd : Nat} {p : P4} (ok : Ok4 nr nd p) {us : List Int} {b a : Int} {j : Nat} (hj : j < nd) : rgT4 p us b a j = rg4 p (uT4 us) (if (reAt p.res j).wh = 2 then a else b) j := by
  have h1 := (ok.re j hj).2.1
  have h2 := ok.nr4
  unfold rgT4 rg4
  rw [uT4_at (by omega)]
theorem cw4_congr {f g : Nat → Bool} : ∀ {k : Nat}, (∀ j, j < k → f j = g j) → cw4 f k = cw4 g k
  | 0, _ => rfl
  | k + 1, h => by
    rw [cw4_succ, cw4_succ, cw4_congr (fun j hj => h j (by omega)), h k (by omega)]
theorem cw4_wr {nr nd : Nat} {p : P4} (ok : Ok4 nr nd p) {us : List Int} {b a : Int} : cw4 (rgT4 p us b a) nd = wr4 p 1 (uT4 us) b + wr4 p 2 (uT4 us) a := by
  rw [cw4_congr (fun j hj => rgT4_eq ok hj)]
  have := cw4_wk (p := p) (u := uT4 us) (b := b) (a := a) (fun k hk => (ok.re k (by rw [← ok.ld]; exact hk)).1) p.res.length (Nat.le_refl _)
  rw [ok.ld] at this
  unfold wr4
  rw [ok.ld]
  exact this
theorem isT4_iff {nr nd : Nat} {p : P4} (ok : Ok4 nr nd p) {us : List Int} {b a : Int} : isT4 p us b a = true ↔ us.length = nr ∧ Tr4 p (uT4 us) b a := by
  unfold isT4 Tr4
  simp only [Bool.and_eq_true, wn_true, beq_iff_eq, decide_eq_true_eq, allN_iff]
  rw [mem_ws4 (by rw [ok.lr]; exact ok.nr4), show ln4 p = ups p.glo p.ghi from rfl, ups_mem, ups_mem, ok.ld, ok.lr, cw4_wr ok]
  have h4 := ok.nr4
  constructor
  · rintro ⟨h1, h2, h3, h5, h6⟩
    refine ⟨h3, ⟨fun j hj => ?_, fun j hj hj' => ?_⟩, h1, h2, h6⟩
    · rw [uT4_at (by omega)]
      exact h5 j (by omega)
    · rw [uT4_at hj]
      unfold iAt
      rw [List.getD_eq_getElem?_getD, List.getElem?_eq_none (by omega)]
      rfl
  · rintro ⟨h3, ⟨h5, -⟩, h1, h2, h6⟩
    refine ⟨h1, h2, h3, fun k hk => ?_, h6⟩
    have := h5 k (by omega)
    rw [uT4_at (by omega)] at this
    exact this
theorem lgs4_eq {p : P4} {wh : Int} (hop : op4 p true = 0) (hw : when4 wh = true) : lgs4 p wh = lg4 p (tr4 p) wh := by
  unfold lgs4
  rw [hw, hop]; rfl
theorem lg4_len {p : P4} {l : List Bu4} {wh : Int} (h : p.ghi - p.glo ≤ 8) : (lg4 p l wh).length ≤ 9 := by
  unfold lg4
  refine Nat.le_trans (List.length_filter_le _ _) ?_
  rw [ln4_len]
  omega
theorem rl4_in {nr nd : Nat} {p : P4} (ok : Ok4 nr nd p) {q : Nat} (hq : q < nr) {n : Int} (h : n ∈ rl4 (tr4 p) q) : (roAt p.rods q).lg - (roAt p.rods q).we ≤ n ∧ n ≤ (roAt p.rods q).lg := by
  obtain ⟨-, u, b, a, ht, rfl⟩ := mem_rl4.1 h
  exact ((mem_ws4 (by rw [ok.lr]; exact ok.nr4)).1 ht.1).1 q (by rw [ok.lr]; exact hq)
theorem rl4_len {nr nd : Nat} {p : P4} (ok : Ok4 nr nd p) {q : Nat} (hq : q < nr) : (rl4 (tr4 p) q).length ≤ 10 := by
  have h1 := nodup_le4 (rl4 (tr4 p) q) (ups ((roAt p.rods q).lg - (roAt p.rods q).we) (roAt p.rods q).lg) (pair_nodup4 rl4_pair) (fun x hx => ups_mem.2 (rl4_in ok hq hx))
  rw [ups_len] at h1
  have := (ok.ro q hq).2.1
  omega
theorem rl4_of {nr nd : Nat} {p : P4} (ok : Ok4 nr nd p) {q : Nat} (hq : q < nr) {u : W4} {b a : Int} (ht : Tr4 p u b a) : u.at_ q ∈ rl4 (tr4 p) q := by
  have h1 := ((mem_ws4 (by rw [ok.lr]; exact ok.nr4)).1 ht.1).1 q (by rw [ok.lr]; exact hq)
  have h2 := ok.ro q hq
  exact mem_rl4.2 ⟨by omega, u, b, a, ht, rfl⟩
theorem rds4_eq {nr nd : Nat} {p : P4} (ok : Ok4 nr nd p) (hop : op4 p true = 0) {q : Nat} (hq : q < nr) : rds4 p (q : Int) = rl4 (tr4 p) q ∧ op4 p (wn (q : Int) 0 ((p.rods.length : Int) - 1)) = 0 := by
  have h1 : wn (q : Int) 0 ((p.rods.length : Int) - 1) = true := wn_true.2 (by rw [ok.lr]; omega)
  unfold rds4
  rw [h1, hop]
  exact ⟨by simp, rfl⟩
/-- the least number of wrong readings -/
theorem few4_le {nr nd : Nat} {p : P4} (hc : ck4 p = true) {u : W4} {b a : Int} (hu : u ∈ ws4 p) (hb : b ∈ ln4 p) (ha : a ∈ ln4 p) : 0 ≤ few4 p ∧ few4 p ≤ ((wr4 p 1 u b + wr4 p 2 u a : Nat) : Int) := by
  obtain ⟨g, hg, -, hg1⟩ := gr4_of (wh := 1) (u := u) hb
  obtain ⟨h, hh, -, hh1⟩ := gr4_of (wh := 2) (u := u) ha
  obtain ⟨i, hi, e⟩ := List.getElem_of_mem (mem_bs4.2 ⟨hu, hg, hh⟩ : (⟨u, g, h⟩ : Bu4) ∈ bs4 p)
  have := fwk4_mem (n := p.res.length) (l := bs4 p) (List.getElem?_eq_getElem hi) (k := (bs4 p).length) hi (Nat.le_refl _)
  rw [e] at this
  simp only at this
  unfold few4
  rw [hc]
  simp only [cond_true]
  omega
/-- a reading of Strange is right in no truth -/
theorem sgA4_no {p : P4} {k : Nat} (h : sgA4 p (tr4 p) k = false) {u : W4} {b a : Int} (ht : Tr4 p u b a) : rg4 p u (if (reAt p.res k).wh = 2 then a else b) k = false := by
  obtain ⟨x, hx, rfl, hb, ha⟩ := tr4_iff.1 ht
  unfold sgA4 at h
  have h1 := List.any_eq_false.1 h x hx
  unfold sgB4 at h1
  rw [Bool.not_eq_true, List.any_eq_false] at h1
  have h2 := h1 (if (reAt p.res k).wh = 2 then a else b) (by
    unfold sd4
    split
    · exact ha
    · exact hb)
  unfold rg4
  simpa using h2
theorem sgA4_yes {p : P4} {k : Nat} (h : sgA4 p (tr4 p) k = true) : ∃ u b a, Tr4 p u b a ∧ rg4 p u (if (reAt p.res k).wh = 2 then a else b) k = true := by
  unfold sgA4 at h
  obtain ⟨x, hx, h1⟩ := List.any_eq_true.1 h
  unfold sgB4 at h1
  obtain ⟨n, hn, h2⟩ := List.any_eq_true.1 h1
  have e := tr4_ends hx
  obtain ⟨⟨-, g1, g2⟩, -⟩ := mem_tr4.1 hx
  unfold sd4 at hn
  by_cases hw : (reAt p.res k).wh = 2
  · rw [if_pos hw] at hn
    exact ⟨x.u, fr4 x.b.2, n, tr4_iff.2 ⟨x, hx, rfl, fr4_mem (gr4_ne g1), hn⟩, by rw [if_pos hw]; exact h2⟩
  · rw [if_neg hw] at hn
    exact ⟨x.u, n, fr4 x.a.2, tr4_iff.2 ⟨x, hx, rfl, hn, fr4_mem (gr4_ne g2)⟩, by rw [if_neg hw]; exact h2⟩
theorem mem_sgL4 {f : Nat → Bool} {k : Nat} {z : Int} : z ∈ sgL4 f k ↔ ∃ i, i < k ∧ f i = false ∧ z = (i : Int) := by
  unfold sgL4
  rw [List.mem_map]
  constructor
  · rintro ⟨i, hi, rfl⟩
    obtain ⟨h1, h2⟩ := List.mem_filter.1 hi
    exact ⟨i, List.mem_range.1 h1, by simpa using h2, rfl⟩
  · rintro ⟨i, h1, h2, rfl⟩
    exact ⟨i, List.mem_filter.2 ⟨List.mem_range.2 h1, by simpa using h2⟩, rfl⟩
theorem sgs4_eq {p : P4} (hop : op4 p true = 0) : sgs4 p = sgL4 (sgA4 p (tr4 p)) p.res.length := by
  unfold sgs4
  rw [hop]; rfl

end Go.Proofs.Ytmmgkmdfecnkdaa

namespace Go.Proofs.Ytmmgkmdfecnkdaa
open Go.RowKit
open Go.Sort (grow)
set_option linter.unusedVariables false
set_option linter.unusedSimpArgs false

/-- all lengths of the rods behind those that are known (i of them, r are left), as lists -/
def woL (rods : List Ro4) : Nat → Nat → List Int → List (List Int)
  | _, 0, f => [f]
  | i, r + 1, f => (ups ((roAt rods i).lg - (roAt rods i).we) (roAt rods i).lg).flatMap fun n => woL rods (i + 1) r (f ++ [n])
/-- the first n lengths as a list -/
def uL4 (n : Nat) (u : W4) : List Int := (List.range n).map u.at_
theorem uL4_len (n : Nat) (u : W4) : (uL4 n u).length = n := by simp [uL4]
theorem uL4_zero (u : W4) : uL4 0 u = [] := rfl
theorem uL4_put {u : W4} {i : Nat} {n : Int} (hi : i ≤ 3) : uL4 (i + 1) (u.put i n) = uL4 i u ++ [n] := by
  unfold uL4
  rw [List.range_succ, List.map_append]
  congr 1
  · refine List.map_congr_left fun j hj => ?_
    rw [List.mem_range] at hj
    exact W4.at_put_ne (by omega) hi (by omega)
  · simp only [List.map_cons, List.map_nil]
    rw [W4.at_put]
theorem uL4_at {u : W4} {n k : Nat} (h : k < n) : iAt (uL4 n u) k = u.at_ k := by
  unfold iAt uL4
  rw [List.getD_eq_getElem?_getD, List.getElem?_map, List.getElem?_range h]; rfl
theorem woL_wo4 (rods : List Ro4) : ∀ (r i : Nat) (u : W4), i + r ≤ 4 → woL rods i r (uL4 i u) = (wo4 rods i r u).map (uL4 (i + r))
  | 0, i, u, _ => rfl
  | r + 1, i, u, h => by
    unfold woL wo4
    rw [List.map_flatMap]
    congr 1
    funext n
    rw [← uL4_put (by omega), woL_wo4 rods r (i + 1) (u.put i n) (by omega), show i + 1 + r = i + (r + 1) by omega]
/-- all of the rods' lengths, as the specification lists them -/
theorem woL_ws4 {p : P4} (h : p.rods.length ≤ 4) : woL p.rods 0 p.rods.length [] = (ws4 p).map (uL4 p.rods.length) := by
  have := woL_wo4 p.rods p.rods.length 0 ⟨0, 0, 0, 0⟩ (by omega)
  rw [uL4_zero, Nat.zero_add] at this
  exact this
theorem woL_inner (rods : List Ro4) : ∀ (r i : Nat) (f : List Int), ∀ l ∈ woL rods i r f, l.length = f.length + r
  | 0, i, f, l, h => by
    unfold woL at h
    rw [List.mem_singleton] at h
    subst h; rfl
  | r + 1, i, f, l, h => by
    unfold woL at h
    obtain ⟨n, -, h⟩ := List.mem_flatMap.1 h
    have := woL_inner rods r (i + 1) _ l h
    rw [List.length_append] at this
    simp only [List.length_cons, List.length_nil] at this
    omega
/-- a truth as the specification holds it: three cells -/
structure Th4 where
  bf : Int
  af : Int
  rd : Hd
def encTh4 (t : Th4) : List Value := [.int .i64 t.bf, .int .i64 t.af, .slice t.rd.A t.rd.n t.rd.c]
theorem encTh4_len (t : Th4) : (encTh4 t).length = 3 := rfl
theorem encTh4_one (x : Th4) : ∀ u ∈ encTh4 x, u.oneCell' = true := by
  intro u hu
  simp only [encTh4, List.mem_cons, List.not_mem_nil, or_false] at hu
  rcases hu with rfl | rfl | rfl <;> rfl
def thAt (ts : List Th4) (k : Nat) : Th4 := ts.getD k ⟨0, 0, ⟨none, 0, 0⟩⟩
/-- a truth in a list of them -/
def tuAt (ts : List (Int × Int × W4)) (k : Nat) : Int × Int × W4 := ts.getD k (0, 0, ⟨0, 0, 0, 0⟩)
/-- a slice of the specification's truths reads as a list of them; nr lengths of rods each -/
structure ThsAt (nr : Nat) (w : World) (A : Option Addr) (n : Nat) (hs : List Th4) (ts : List (Int × Int × W4)) : Prop where
  sl : SlAt encTh4 3 ⟨0, 0, ⟨none, 0, 0⟩⟩ w A n hs
  tl : ts.length = n
  at_ : ∀ k, k < n → (thAt hs k).bf = (tuAt ts k).1 ∧ (thAt hs k).af = (tuAt ts k).2.1 ∧ (thAt hs k).rd.n = nr ∧ IntsAt w (thAt hs k).rd.A nr (uL4 nr (tuAt ts k).2.2)
  bd : ∀ k, k < n → ∀ a, (thAt hs k).rd.A = some a → a.block < w.heap.size
theorem ThsAt.later {nr : Nat} {w w' : World} {A : Option Addr} {n : Nat} {hs : List Th4} {ts : List (Int × Int × W4)} (h : ThsAt nr w A n hs ts) (hb : Below w.heap.size w w') : ThsAt nr w' A n hs ts :=
  ⟨⟨h.sl.1, h.sl.2.later hb⟩, h.tl, fun k hk => ⟨(h.at_ k hk).1, (h.at_ k hk).2.1, (h.at_ k hk).2.2.1, (h.at_ k hk).2.2.2.later hb⟩, fun k hk a ha => Nat.lt_of_lt_of_le (h.bd k hk a ha) hb.size⟩
theorem ThsAt.get {nr : Nat} {w : World} {A : Option Addr} {n : Nat} {hs : List Th4} {ts : List (Int × Int × W4)} (h : ThsAt nr w A n hs ts) {k : Nat} (hk : k < n) :
    ∃ b off B c, A = some ⟨b, off, none⟩ ∧ b < w.heap.size ∧ w.cell? ⟨b, off + k * 3, none⟩ = some (.int .i64 (tuAt ts k).1) ∧ w.cell? ⟨b, off + k * 3 + 1, none⟩ = some (.int .i64 (tuAt ts k).2.1) ∧ w.cell? ⟨b, off + k * 3 + 2, none⟩ = some (.slice B nr c) ∧ IntsAt w B nr (uL4 nr (tuAt ts k).2.2) := by
  obtain ⟨b, off, e, hb, hc⟩ := h.sl.2 (by omega)
  obtain ⟨h0, h1, h2, h3⟩ := h.at_ k hk
  refine ⟨b, off, (thAt hs k).rd.A, (thAt hs k).rd.c, e, hb, ?_, ?_, ?_, h3⟩
  · rw [← h0]; exact hc k hk 0 _ rfl
  · rw [← h1]; exact hc k hk 1 _ rfl
  · have := hc k hk 2 _ rfl
    rw [← h2]; exact this
theorem ThsAt.getb {nr : Nat} {w : World} {A : Option Addr} {n : Nat} {hs : List Th4} {ts : List (Int × Int × W4)} (h : ThsAt nr w A n hs ts) {k : Nat} (hk : k < n) :
    ∃ b off B c, A = some ⟨b, off, none⟩ ∧ b < w.heap.size ∧ w.cell? ⟨b, off + k * 3, none⟩ = some (.int .i64 (tuAt ts k).1) ∧ w.cell? ⟨b, off + k * 3 + 1, none⟩ = some (.int .i64 (tuAt ts k).2.1) ∧ w.cell? ⟨b, off + k * 3 + 2, none⟩ = some (.slice B nr c) ∧ IntsAt w B nr (uL4 nr (tuAt ts k).2.2) ∧ ∀ a, B = some a → a.block < w.heap.size := by
  obtain ⟨b, off, e, hb, hc⟩ := h.sl.2 (by omega)
  obtain ⟨h0, h1, h2, h3⟩ := h.at_ k hk
  refine ⟨b, off, (thAt hs k).rd.A, (thAt hs k).rd.c, e, hb, ?_, ?_, ?_, h3, h.bd k hk⟩
  · rw [← h0]; exact hc k hk 0 _ rfl
  · rw [← h1]; exact hc k hk 1 _ rfl
  · have := hc k hk 2 _ rfl
    rw [← h2]; exact this

end Go.Proofs.Ytmmgkmdfecnkdaa

namespace Go.Proofs.Ytmmgkmdfecnkdaa
open Go.RowKit
open Go.Sort (grow)
set_option linter.unusedVariables false
set_option linter.unusedSimpArgs false

def srK4 (f : Int → Bool) (lo : Int) (k : Nat) : List Int := ((List.range k).map fun j : Nat => lo + (j : Int)).filter f
theorem srK4_len (f : Int → Bool) (lo : Int) (k : Nat) : (srK4 f lo k).length ≤ k := by
  unfold srK4
  exact Nat.le_trans (List.length_filter_le _ _) (by simp)
theorem srK4_yes {f : Int → Bool} {lo : Int} {k : Nat} (h : f (lo + k) = true) : srK4 f lo (k + 1) = srK4 f lo k ++ [lo + (k : Int)] := by
  unfold srK4
  rw [List.range_succ, List.map_append, List.filter_append]; simp [h]
theorem srK4_no {f : Int → Bool} {lo : Int} {k : Nat} (h : f (lo + k) = false) : srK4 f lo (k + 1) = srK4 f lo k := by
  unfold srK4
  rw [List.range_succ, List.map_append, List.filter_append]; simp [h]
/-- Sorted -/
def srt4 (xs : List Int) (n : Nat) (lo hi : Int) : List Int := (ups lo hi).filter fun x => ic4 xs n x
theorem srt4_eq (xs : List Int) (n : Nat) (lo hi : Int) : srt4 xs n lo hi = srK4 (fun x => ic4 xs n x) lo (hi - lo + 1).toNat := rfl
set_option maxRecDepth 100000 in
set_option maxHeartbeats 1600000 in
theorem refSorted4_c (A : Option Addr) (n c : Nat) (xs : List Int) (lo hi : Int) (w : World) (hn : n ≤ 100000) (HX : IntsAt w A n xs) (hlo : -1000000 ≤ lo) (hhi : hi ≤ 1000000) (hlh : hi - lo ≤ 90000) :
    Calls Try.prog 47 #[.slice A n c, .int .i64 lo, .int .i64 hi] w fun e w' => ∃ B d, e = .returned (.slice B (srt4 xs n lo hi).length d) ∧ IntsAt w' B (srt4 xs n lo hi).length (srt4 xs n lo hi) ∧ Below w.heap.size w w' := by
  rw [srt4_eq]
  obtain ⟨F, hF⟩ : ∃ F : Int → Bool, (fun x => ic4 xs n x) = F := ⟨_, rfl⟩
  have HIN := Lib.hid (fun (x : Int) V (hV : Below w.heap.size w V) => refIn4_c A n c x xs V hn (HX.later hV))
  have hFx : ∀ x, ic4 xs n x = F x := fun x => by rw [← hF]
  simp only [hFx] at HIN
  rw [hF]
  obtain ⟨N, hN⟩ : ∃ N : Nat, (hi - lo + 1).toNat = N := ⟨_, rfl⟩
  have HN := Lib.hid hN
  rw [hN]
  have hNb : N ≤ 90001 := by omega
  clear hF hFx HX hN
  go_enter Try.func47, Try.ntmps47
  go_wp2_with fail
  go_loopw [7, 8] (fun v i (wr : World) => ∃ k : Nat, k ≤ N ∧ i = .int .i64 (lo + k) ∧ wr.ownsRow w.heap.size 3 1 v (srK4 F lo k).length ((srK4 F lo k).flatMap encI) ∧ Below w.heap.size w wr) (fun _ i _ => N - (intOf i - lo).toNat)
  case atStart => exact ⟨0, by omega, by simp, World.ownsRow_nil w w.heap.size _ 1, Below.refl _ _⟩
  case round =>
    obtain ⟨k, hk, rfl, ho, hb⟩ := hrel
    have HO := Lib.hid ho
    have zb := hb.size
    clear ho
    by_cases hlt : k < N
    · have hqB : decide (lo + (k : Int) ≤ hi) = true := decide_eq_true (by have := HN.out; omega)
      have vk : IntKind.i64.wrap (lo + (k : Int) + 1) = lo + (k : Int) + 1 := IntWalk.i64_in _ (by have := HN.out; omega)
      have HC := Lib.hid (HIN.out (lo + (k : Int)) wr hb)
      cases hf : F (lo + (k : Int))
      · have HSN := Lib.hid (srK4_no hf)
        rw [hf] at HC
        clear hf
        go_wp2_with (go_at_call 73; refine HC.out.mono ?_; (rintro e w5 ⟨rfl, rfl⟩))
        go_roundw
        case rel => exact ⟨k + 1, by omega, by go_num, by rw [HSN.out]; exact HO.out, hb⟩
        case measure => simp [intOf]; omega
      · have HSN := Lib.hid (srK4_yes hf)
        rw [hf] at HC
        have hln := srK4_len F lo k
        obtain ⟨q, hq⟩ : ∃ q, (srK4 F lo k).length = q := ⟨_, rfl⟩
        rw [hq] at HO hln
        have HQ := Lib.hid hq
        clear hf hq
        go_wp2_with (first | (go_at_call 73; refine HC.out.mono ?_; (rintro e w5 ⟨rfl, rfl⟩)) | (at_builtin; go_must (refine wpList_append_T _ (d := (0 : Int)) rfl (.tmp 18) (.tmp 20) _ rfl w.heap.size _ 1 8 int4E encI_len encI_one u7 u7.ownBlock q (srK4 F lo k) rfl rfl ?ow _ 1 _ [lo + (k : Int)] rfl ?sl (by omega) ?sz ?_; (case ow => exact own_below HO.out (by (repeat first | with_reducible assumption | with_reducible exact Below.refl _ _ | (with_reducible refine Below.alloc ?_ ?side _; case side => (first | omega | (with_reducible exact Below.size (by assumption)) | (simp; done) | (simp; omega))) | (with_reducible refine Below.setCell ?_ ?side _; case side => (first | omega | (with_reducible exact Below.size (by assumption)) | (simp; done) | (simp; omega))) | with_reducible refine Below.drew ?_ | with_reducible refine below_drewN ?_ _ | (with_reducible refine below_step (by assumption) ?side ?_; case side => (first | omega | (with_reducible exact Below.size (by assumption)) | (simp; done) | (simp; omega)))))); (case sl => exact sl_new encI_len (by first | rfl | simp) rfl rfl); (case sz => go_size); (rintro v8 w8 ho8 hg8 ha8); (have hb8 : Below w.heap.size wr w8 := Below.grown (by (repeat first | with_reducible assumption | with_reducible exact Below.refl _ _ | (with_reducible refine Below.alloc ?_ ?side _; case side => (first | omega | (with_reducible exact Below.size (by assumption)) | (simp; done) | (simp; omega))) | (with_reducible refine Below.setCell ?_ ?side _; case side => (first | omega | (with_reducible exact Below.size (by assumption)) | (simp; done) | (simp; omega))) | with_reducible refine Below.drew ?_ | with_reducible refine below_drewN ?_ _ | (with_reducible refine below_step (by assumption) ?side ?_; case side => (first | omega | (with_reducible exact Below.size (by assumption)) | (simp; done) | (simp; omega))))) hg8 (by go_size) (own_ge HO.out)); (have HO8 := Lib.hid ho8); (clear ho8 hg8 ha8))))
        go_roundw
        case rel => exact ⟨k + 1, by omega, by go_num, by show World.ownsRow _ _ _ _ _ _ _; rw [HSN.out, List.length_append, HQ.out]; exact HO8.out, hb.trans hb8⟩
        case measure => simp [intOf]; omega
    · obtain rfl : N = k := by omega
      have hqB : decide (lo + ((N : Nat) : Int) ≤ hi) = false := decide_eq_false (by have := HN.out; omega)
      obtain ⟨A5, c5, e5, -, hs5⟩ := SlAt.of_own (d := (0 : Int)) encI_len HO.out rfl
      subst e5
      have HS5 := Lib.hid (ints_iff.2 hs5)
      clear hs5
      go_wp2_with fail
      go_ret
      exact ⟨A5, c5, rfl, HS5.out, hb⟩

end Go.Proofs.Ytmmgkmdfecnkdaa
