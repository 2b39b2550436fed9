/- Pulls (layer 4): rods, readings, lengths, in plain Lean and in memory. -/
import Derived.Test.YtglpgcgidkdkiaaQc03
namespace Go.Proofs.Ytglpgcgidkdkiaa
open Go.RowKit
open Go.Sort (grow)
set_option linter.unusedVariables false
set_option linter.unusedSimpArgs false

structure Ro4 where
  lg : Int
  we : Int
  gr : Int
structure Re4 where
  wh : Int
  rd : Int
  ct : Int
  rs : Int
  of : Int
  lo : Int
  hi : Int
def encR4 (x : Ro4) : List Value := [.int .i64 x.lg, .int .i64 x.we, .int .i64 x.gr]
def encE4 (x : Re4) : List Value := [.int .i64 x.wh, .int .i64 x.rd, .int .i64 x.ct, .int .i64 x.rs, .int .i64 x.of, .int .i64 x.lo, .int .i64 x.hi]
theorem encR4_len (x : Ro4) : (encR4 x).length = 3 := rfl
theorem encE4_len (x : Re4) : (encE4 x).length = 7 := rfl
theorem encR4_one (x : Ro4) : ∀ u ∈ encR4 x, u.oneCell' = true := by
  intro u hu; simp only [encR4, List.mem_cons, List.not_mem_nil, or_false] at hu; rcases hu with rfl | rfl | rfl <;> rfl
theorem encE4_one (x : Re4) : ∀ u ∈ encE4 x, u.oneCell' = true := by
  intro u hu; simp only [encE4, List.mem_cons, List.not_mem_nil, or_false] at hu; rcases hu with rfl | rfl | rfl | rfl | rfl | rfl | rfl <;> rfl
def roAt (xs : List Ro4) (k : Nat) : Ro4 := xs.getD k ⟨0, 0, 0⟩
def reAt (xs : List Re4) (k : Nat) : Re4 := xs.getD k ⟨0, 0, 0, 0, 0, 0, 0⟩
def RosAt (w : World) (A : Option Addr) (n : Nat) (xs : List Ro4) : Prop := SlAt encR4 3 ⟨0, 0, 0⟩ w A n xs
def ResAt (w : World) (A : Option Addr) (n : Nat) (xs : List Re4) : Prop := SlAt encE4 7 ⟨0, 0, 0, 0, 0, 0, 0⟩ w A n xs
section
variable {w w' : World} {A : Option Addr} {n : Nat}
theorem RosAt.later {xs : List Ro4} (h : RosAt w A n xs) (hb : Below w.heap.size w w') : RosAt w' A n xs := ⟨h.1, h.2.later hb⟩
theorem ResAt.later {xs : List Re4} (h : ResAt w A n xs) (hb : Below w.heap.size w w') : ResAt w' A n xs := ⟨h.1, h.2.later hb⟩
theorem RosAt.get {xs : List Ro4} (h : RosAt w A n xs) {k : Nat} (hk : k < n) :
    ∃ b off, A = some ⟨b, off, none⟩ ∧ b < w.heap.size ∧ w.cell? ⟨b, off + k * 3, none⟩ = some (.int .i64 (roAt xs k).lg) ∧ w.cell? ⟨b, off + k * 3 + 1, none⟩ = some (.int .i64 (roAt xs k).we) ∧ w.cell? ⟨b, off + k * 3 + 2, none⟩ = some (.int .i64 (roAt xs k).gr) := by
  obtain ⟨b, off, e, hb, hc⟩ := h.2 (by omega)
  exact ⟨b, off, e, hb, hc k hk 0 _ rfl, hc k hk 1 _ rfl, hc k hk 2 _ rfl⟩
theorem ResAt.get {xs : List Re4} (h : ResAt w A n xs) {k : Nat} (hk : k < n) :
    ∃ b off, A = some ⟨b, off, none⟩ ∧ b < w.heap.size ∧ w.cell? ⟨b, off + k * 7, none⟩ = some (.int .i64 (reAt xs k).wh) ∧ w.cell? ⟨b, off + k * 7 + 1, none⟩ = some (.int .i64 (reAt xs k).rd) ∧ w.cell? ⟨b, off + k * 7 + 2, none⟩ = some (.int .i64 (reAt xs k).ct) ∧ w.cell? ⟨b, off + k * 7 + 3, none⟩ = some (.int .i64 (reAt xs k).rs)
      ∧ w.cell? ⟨b, off + k * 7 + 4, none⟩ = some (.int .i64 (reAt xs k).of) ∧ w.cell? ⟨b, off + k * 7 + 5, none⟩ = some (.int .i64 (reAt xs k).lo) ∧ w.cell? ⟨b, off + k * 7 + 6, none⟩ = some (.int .i64 (reAt xs k).hi) := by
  obtain ⟨b, off, e, hb, hc⟩ := h.2 (by omega)
  exact ⟨b, off, e, hb, hc k hk 0 _ rfl, hc k hk 1 _ rfl, hc k hk 2 _ rfl, hc k hk 3 _ rfl, hc k hk 4 _ rfl, hc k hk 5 _ rfl, hc k hk 6 _ rfl⟩
end
/-- the lengths of all rods -/
structure W4 where
  w0 : Int
  w1 : Int
  w2 : Int
  w3 : Int
deriving DecidableEq
def W4.at_ (u : W4) (i : Nat) : Int := match i with | 0 => u.w0 | 1 => u.w1 | 2 => u.w2 | _ => u.w3
def W4.put (u : W4) (i : Nat) (n : Int) : W4 := match i with | 0 => { u with w0 := n } | 1 => { u with w1 := n } | 2 => { u with w2 := n } | _ => { u with w3 := n }
theorem W4.at_put {u : W4} {i : Nat} {n : Int} : (u.put i n).at_ i = n := by unfold W4.put W4.at_; match i with | 0 => rfl | 1 => rfl | 2 => rfl | _ + 3 => rfl
theorem W4.at_put_ne {u : W4} {i j : Nat} {n : Int} (hj : j ≤ 3) (hi : i ≤ 3) (h : j ≠ i) : (u.put i n).at_ j = u.at_ j := by
  have hi' : i = 0 ∨ i = 1 ∨ i = 2 ∨ i = 3 := by omega
  have hj' : j = 0 ∨ j = 1 ∨ j = 2 ∨ j = 3 := by omega
  rcases hi' with rfl | rfl | rfl | rfl <;> rcases hj' with rfl | rfl | rfl | rfl <;> first | exact absurd rfl h | rfl
/-- a pull -/
structure P4 where
  ir : Int
  glo : Int
  ghi : Int
  wr : Int
  rods : List Ro4
  res : List Re4
def ckRo4 (x : Ro4) : Bool := wn x.lg 1 9999 && wn x.we 0 (min 9 (x.lg - 1)) && wn x.gr 0 50
def ckRe4 (nr : Nat) (x : Re4) : Bool := (decide (x.wh = 1) || decide (x.wh = 2)) && wn x.rd 0 (nr - 1) && wn x.ct 0 99 && wn x.rs 0 9999 && wn x.of 0 99 && wn x.lo (-50) x.hi && decide (x.hi ≤ 50)
def ck4 (p : P4) : Bool :=
  wn p.ir 0 50 && wn p.glo 1 p.ghi && decide (p.ghi ≤ 99999) && wn p.wr 0 8 && decide (p.rods.length ≤ 4) && decide (p.res.length ≤ 8) && p.rods.all ckRo4 && p.res.all (ckRe4 p.rods.length)
/-- a pull in memory -/
structure MemP (Ar : Option Addr) (nr : Nat) (Ad : Option Addr) (nd : Nat) (p : P4) (W : World) : Prop where
  hr : RosAt W Ar nr p.rods
  hd : ResAt W Ad nd p.res
theorem MemP.later {Ar Ad : Option Addr} {nr nd : Nat} {p : P4} {W W' : World} (h : MemP Ar nr Ad nd p W) (hb : Below W.heap.size W W') : MemP Ar nr Ad nd p W' := ⟨h.hr.later hb, h.hd.later hb⟩
/-- what is valid -/
structure Ok4 (nr nd : Nat) (p : P4) : Prop where
  nr4 : nr ≤ 4
  nd8 : nd ≤ 8
  lr : p.rods.length = nr
  ld : p.res.length = nd
  ir : 0 ≤ p.ir ∧ p.ir ≤ 50
  g : 1 ≤ p.glo ∧ p.glo ≤ p.ghi ∧ p.ghi ≤ 99999
  wr : 0 ≤ p.wr ∧ p.wr ≤ 8
  ro : ∀ k, k < nr → (1 ≤ (roAt p.rods k).lg ∧ (roAt p.rods k).lg ≤ 9999) ∧ (0 ≤ (roAt p.rods k).we ∧ (roAt p.rods k).we ≤ 9 ∧ (roAt p.rods k).we ≤ (roAt p.rods k).lg - 1) ∧ (0 ≤ (roAt p.rods k).gr ∧ (roAt p.rods k).gr ≤ 50)
  re : ∀ k, k < nd → ((reAt p.res k).wh = 1 ∨ (reAt p.res k).wh = 2) ∧ (0 ≤ (reAt p.res k).rd ∧ (reAt p.res k).rd < nr) ∧ (0 ≤ (reAt p.res k).ct ∧ (reAt p.res k).ct ≤ 99) ∧ (0 ≤ (reAt p.res k).rs ∧ (reAt p.res k).rs ≤ 9999) ∧ (0 ≤ (reAt p.res k).of ∧ (reAt p.res k).of ≤ 99) ∧ (-50 ≤ (reAt p.res k).lo ∧ (reAt p.res k).lo ≤ (reAt p.res k).hi ∧ (reAt p.res k).hi ≤ 50)
theorem roAt_mem {xs : List Ro4} {k : Nat} (h : k < xs.length) : roAt xs k ∈ xs := by unfold roAt; rw [List.getD_eq_getElem?_getD, List.getElem?_eq_getElem h]; exact List.getElem_mem h
theorem reAt_mem {xs : List Re4} {k : Nat} (h : k < xs.length) : reAt xs k ∈ xs := by unfold reAt; rw [List.getD_eq_getElem?_getD, List.getElem?_eq_getElem h]; exact List.getElem_mem h
theorem ok4_of {nr nd : Nat} {p : P4} (h : ck4 p = true) (hr : p.rods.length = nr) (hd : p.res.length = nd) : Ok4 nr nd p := by
  simp only [ck4, Bool.and_eq_true, wn_true, decide_eq_true_eq, List.all_eq_true] at h
  obtain ⟨⟨⟨⟨⟨⟨⟨h1, h2⟩, h3⟩, h4⟩, h5⟩, h6⟩, h7⟩, h8⟩ := h
  refine ⟨by omega, by omega, hr, hd, h1, ⟨h2.1, h2.2, h3⟩, h4, fun k hk => ?_, fun k hk => ?_⟩
  · have := h7 _ (roAt_mem (k := k) (xs := p.rods) (by omega))
    simp only [ckRo4, Bool.and_eq_true, wn_true] at this
    omega
  · have := h8 _ (reAt_mem (k := k) (xs := p.res) (by omega))
    simp only [ckRe4, Bool.and_eq_true, Bool.or_eq_true, wn_true, decide_eq_true_eq] at this
    omega
/-- what a reading says -/
def sy4 (x : Re4) (rod : Int) : Int := x.ct * rod + x.rs
def dt4 (ir gr len says t : Int) : Int := len * (1000000 + ir * t) - says * (1000000 + gr * t)
def ok4t (ir gr len says of t : Int) : Bool := decide (dt4 ir gr len says t ≤ of * 1000000) && decide (-dt4 ir gr len says t ≤ of * 1000000)
/-- whether a reading is right with a length and a length of its rod -/
def rt4 (ir gr : Int) (x : Re4) (len rod : Int) : Bool := (ups x.lo x.hi).any fun t => ok4t ir gr len (sy4 x rod) x.of t
/-- reading j of p is right -/
def rg4 (p : P4) (u : W4) (len : Int) (j : Nat) : Bool := rt4 p.ir (roAt p.rods (reAt p.res j).rd.toNat).gr (reAt p.res j) len (u.at_ (reAt p.res j).rd.toNat)
/-- how many of the first k readings of a time are not right -/
def wk4 (p : P4) (wh : Int) (u : W4) (len : Int) (k : Nat) : Nat := ((List.range k).filter fun j => decide ((reAt p.res j).wh = wh) && !rg4 p u len j).length
def wr4 (p : P4) (wh : Int) (u : W4) (len : Int) : Nat := wk4 p wh u len p.res.length
theorem wk4_succ {p : P4} {wh : Int} {u : W4} {len : Int} {k : Nat} : wk4 p wh u len (k + 1) = wk4 p wh u len k + (bif decide ((reAt p.res k).wh = wh) && !rg4 p u len k then 1 else 0) := by
  unfold wk4
  rw [List.range_succ, List.filter_append, List.length_append]
  cases h : (decide ((reAt p.res k).wh = wh) && !rg4 p u len k) <;> simp [h]
theorem wk4_le {p : P4} {wh : Int} {u : W4} {len : Int} {k : Nat} : wk4 p wh u len k ≤ k := by
  unfold wk4
  exact Nat.le_trans (List.length_filter_le _ _) (by simp)
/-- all lengths that there can be -/
def ln4 (p : P4) : List Int := ups p.glo p.ghi
/-- the groups of a time -/
def gr4 (p : P4) (wh : Int) (u : W4) : List (Nat × List Int) :=
  ((List.range (p.res.length + 1)).filter fun n => (ln4 p).any fun l => wr4 p wh u l == n).map fun n => (n, (ln4 p).filter fun l => wr4 p wh u l == n)
/-- all lengths of the rods, the first i of which are known, r are left -/
def wo4 (rods : List Ro4) : Nat → Nat → W4 → List W4
  | _, 0, u => [u]
  | i, r + 1, u => (ups ((roAt rods i).lg - (roAt rods i).we) (roAt rods i).lg).flatMap fun n => wo4 rods (i + 1) r (u.put i n)
def ws4 (p : P4) : List W4 := wo4 p.rods 0 p.rods.length ⟨0, 0, 0, 0⟩
structure Bu4 where
  u : W4
  b : Nat × List Int
  a : Nat × List Int
def bs4 (p : P4) : List Bu4 := (ws4 p).flatMap fun u => (gr4 p 1 u).flatMap fun g => (gr4 p 2 u).map fun h => ⟨u, g, h⟩
def tr4 (p : P4) : List Bu4 := (bs4 p).filter fun x => decide (((x.b.1 + x.a.1 : Nat) : Int) ≤ p.wr)
/-- a truth: the lengths of the rods, the length before, the length after -/
def Tr4 (p : P4) (u : W4) (b a : Int) : Prop := u ∈ ws4 p ∧ b ∈ ln4 p ∧ a ∈ ln4 p ∧ ((wr4 p 1 u b + wr4 p 2 u a : Nat) : Int) ≤ p.wr
theorem mem_gr4 {p : P4} {wh : Int} {u : W4} {g : Nat × List Int} : g ∈ gr4 p wh u ↔ (∃ l ∈ ln4 p, wr4 p wh u l = g.1) ∧ g.2 = (ln4 p).filter fun l => wr4 p wh u l == g.1 := by
  unfold gr4
  rw [List.mem_map]
  constructor
  · rintro ⟨n, hn, rfl⟩
    rw [List.mem_filter, List.any_eq_true] at hn
    obtain ⟨-, l, hl, hw⟩ := hn
    exact ⟨⟨l, hl, by simpa using hw⟩, rfl⟩
  · rintro ⟨⟨l, hl, hw⟩, h2⟩
    refine ⟨g.1, List.mem_filter.2 ⟨List.mem_range.2 ?_, List.any_eq_true.2 ⟨l, hl, by simpa using hw⟩⟩, ?_⟩
    · have := wk4_le (p := p) (wh := wh) (u := u) (len := l) (k := p.res.length)
      unfold wr4 at hw
      omega
    · rw [← h2]
theorem gr4_mem {p : P4} {wh : Int} {u : W4} {g : Nat × List Int} (h : g ∈ gr4 p wh u) {l : Int} : l ∈ g.2 ↔ l ∈ ln4 p ∧ wr4 p wh u l = g.1 := by
  rw [(mem_gr4.1 h).2, List.mem_filter]; simp
theorem gr4_ne {p : P4} {wh : Int} {u : W4} {g : Nat × List Int} (h : g ∈ gr4 p wh u) : g.2 ≠ [] := by
  obtain ⟨⟨l, hl, hw⟩, -⟩ := mem_gr4.1 h
  intro e
  have := (gr4_mem h).2 ⟨hl, hw⟩
  rw [e] at this
  cases this
theorem gr4_of {p : P4} {wh : Int} {u : W4} {l : Int} (hl : l ∈ ln4 p) : ∃ g ∈ gr4 p wh u, l ∈ g.2 ∧ g.1 = wr4 p wh u l :=
  ⟨(wr4 p wh u l, (ln4 p).filter fun l' => wr4 p wh u l' == wr4 p wh u l), mem_gr4.2 ⟨⟨l, hl, rfl⟩, rfl⟩, List.mem_filter.2 ⟨hl, by simp⟩, rfl⟩
theorem mem_bs4 {p : P4} {x : Bu4} : x ∈ bs4 p ↔ x.u ∈ ws4 p ∧ x.b ∈ gr4 p 1 x.u ∧ x.a ∈ gr4 p 2 x.u := by
  unfold bs4
  simp only [List.mem_flatMap, List.mem_map]
  constructor
  · rintro ⟨u, hu, g, hg, h, hh, rfl⟩; exact ⟨hu, hg, hh⟩
  · rintro ⟨hu, hg, hh⟩; exact ⟨x.u, hu, x.b, hg, x.a, hh, rfl⟩
theorem mem_tr4 {p : P4} {x : Bu4} : x ∈ tr4 p ↔ (x.u ∈ ws4 p ∧ x.b ∈ gr4 p 1 x.u ∧ x.a ∈ gr4 p 2 x.u) ∧ ((x.b.1 + x.a.1 : Nat) : Int) ≤ p.wr := by
  unfold tr4; rw [List.mem_filter, mem_bs4]; simp
/-- the truths are what lies in the bundles -/
theorem tr4_iff {p : P4} {u : W4} {b a : Int} : Tr4 p u b a ↔ ∃ x ∈ tr4 p, x.u = u ∧ b ∈ x.b.2 ∧ a ∈ x.a.2 := by
  constructor
  · rintro ⟨hu, hb, ha, hw⟩
    obtain ⟨g, hg, hg2, hg1⟩ := gr4_of (wh := 1) (u := u) hb
    obtain ⟨h, hh, hh2, hh1⟩ := gr4_of (wh := 2) (u := u) ha
    exact ⟨⟨u, g, h⟩, mem_tr4.2 ⟨⟨hu, hg, hh⟩, by show ((g.1 + h.1 : Nat) : Int) ≤ p.wr; rw [hg1, hh1]; exact hw⟩, rfl, hg2, hh2⟩
  · rintro ⟨x, hx, rfl, hb, ha⟩
    obtain ⟨⟨h1, h2, h3⟩, h4⟩ := mem_tr4.1 hx
    obtain ⟨b1, b2⟩ := (gr4_mem h2).1 hb
    obtain ⟨a1, a2⟩ := (gr4_mem h3).1 ha
    exact ⟨h1, b1, a1, by rw [b2, a2]; exact h4⟩

end Go.Proofs.Ytglpgcgidkdkiaa
