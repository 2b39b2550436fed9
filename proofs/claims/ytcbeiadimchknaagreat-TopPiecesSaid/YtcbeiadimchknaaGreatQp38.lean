/- A look-up in a map that has not turned gives the same in whatever world; groups of lengths as a datum (layer 4); groups of stretch (layer 4): the lengths of a time by how many readings are not right. -/
import Derived.Test.YtcbeiadimchknaaGreatQp37
import Derived.Test.YtcbeiadimchknaaGreatQp09
import Derived.Maps.OwnRows
import Derived.Maps.OwnOps
namespace Go.Proofs.YtcbeiadimchknaaGreat
open Go.RowKit Go.Maps Go.Sort Go.ChangeShapes
open Go.Sort (grow)
set_option linter.unusedVariables false
set_option linter.unusedSimpArgs false

section
variable {P : Program} {k t e : TypeId} {w w9 : World} {b : Nat}
open Go.WideElems (Fit rg pl rd_val rd_key)
theorem look_same {H : Type} {R : Value → Option (DataW H × List MemPlace)} {es : Array MapEntry} {clock : Nat} (K : Keyed P k) (ht : P.underlying t = some (.map k e)) {z : Value} (hz : ∀ W, (zeroValue e).run P W = .ok z W) (F : Fit P k R es clock)
    (hb : w.heap[b]? = some (.map es clock)) (hb9 : w9.heap[b]? = w.heap[b]?) {key : Value} {kl : Lit} (hkey : keyOf P k key = some kl) {v : Value} (h : (Instr.lookup t (.map (some b)) key false).run P w = .ok v w) :
    (Instr.lookup t (.map (some b)) key false).run P w9 = .ok v w9 := by
  have F' : Fit P k (fun v => some ((DataW.held v : DataW Value), ([] : List MemPlace))) es clock := ⟨F.size, F.stamped, fun x hx => by
    obtain ⟨y, hy⟩ := F.reads x hx
    refine ⟨(y.1, .held x.val), ?_⟩
    unfold Go.WideElems.rd
    rw [rd_key hy]
    rfl⟩
  rcases Maps.fit_look false K ht (hz w) hb F' hkey with ⟨r1, n1, -⟩ | ⟨e0, y0, m0, k0, r1, R0, a0, -⟩
  · rcases Maps.fit_look false K ht (hz w9) (hb9.trans hb) F' hkey with ⟨r2, n2, -⟩ | ⟨e1, y1, m1, k1, r2, R1, a1, -⟩
    · rw [h] at r1
      simp only [Bool.false_eq_true, if_false, Result.ok.injEq, and_true] at r1
      rw [r1]
      simpa using r2
    · exact absurd k1 (n1 e1 m1)
  · rcases Maps.fit_look false K ht (hz w9) (hb9.trans hb) F' hkey with ⟨r2, n2, -⟩ | ⟨e1, y1, m1, k1, r2, R1, a1, -⟩
    · exact absurd k0 (n2 e0 m0)
    · have e2 := (a0 .nil).symm.trans (a1 .nil)
      cases R0
      cases R1
      simp only [DataW.held.injEq] at e2
      rw [h] at r1
      simp only [Bool.false_eq_true, if_false, Result.ok.injEq, and_true] at r1 r2
      rw [r1, e2]
      exact r2
end
/-- the elements of a slice, nil as empty -/
def items4 : DataW Unit → List (DataW Unit)
  | .slice es _ => es
  | _ => []
theorem items4_row {w : World} {base : Nat} {e : TypeId} {v : Value} {zs : List Int} (h : w.ownsInts base e .i64 v zs) : items4 (rowDatum .i64 v zs) = lits .i64 zs := by
  rcases h.datum (H := Unit) with ⟨h1, h2⟩ | h1
  · rw [h1, h2]; rfl
  · rw [h1]; rfl
theorem lits_inj {H : Type} {xs ys : List Int} (h : (lits .i64 xs : List (DataW H)) = lits .i64 ys) : xs = ys := by
  unfold lits at h
  exact (List.map_inj_right (fun a b hab => by cases hab; rfl)).1 h
/-- the datum of the groups: at n the list f n; an entry just where it is not empty -/
structure GrpD (G : DataW Unit) (f : Int → List Int) : Prop where
  mp : IsMap G
  at_ : ∀ n, items4 (G.atKey (.int .i64 n) .nil) = lits .i64 (f n)
  has_ : ∀ n, has G (.int .i64 n) = !(f n).isEmpty
theorem GrpD.made : GrpD (.map []) (fun _ => []) := ⟨isMap_empty, fun n => rfl, fun n => rfl⟩
theorem GrpD.get {G : DataW Unit} {f : Int → List Int} (h : GrpD G f) {w : World} {base : Nat} {e : TypeId} {v : Value} {zs : List Int} {n : Int} (hat : G.atKey (.int .i64 n) .nil = rowDatum .i64 v zs) (ho : w.ownsInts base e .i64 v zs) : zs = f n := by
  have h1 := h.at_ n
  rw [hat, items4_row ho] at h1
  exact lits_inj h1
theorem GrpD.put {G : DataW Unit} {f g : Int → List Int} (h : GrpD G f) {w : World} {base : Nat} {e : TypeId} {v : Value} {zs : List Int} {n : Int} (ho : w.ownsInts base e .i64 v zs) (h1 : g n = zs) (hne : zs ≠ []) (h2 : ∀ y, y ≠ n → g y = f y) : GrpD (G.put (.int .i64 n) (rowDatum .i64 v zs)) g := by
  refine ⟨h.mp.put _ _, fun y => ?_, fun y => ?_⟩
  · by_cases e1 : y = n
    · subst e1; rw [atKey_put_same h.mp (keyLit_int y), items4_row ho, h1]
    · rw [atKey_put_other (fun h => e1 (by injection h)), h.at_ y, h2 y e1]
  · by_cases e1 : y = n
    · subst e1; rw [has_put_same h.mp (keyLit_int y), h1]; cases zs <;> simp_all
    · rw [has_put_other (fun h => e1 (by injection h)), h.has_ y, h2 y e1]
theorem GrpD.congr {G : DataW Unit} {f g : Int → List Int} (h : GrpD G f) (h2 : ∀ y, g y = f y) : GrpD G g := ⟨h.mp, fun n => by rw [h.at_ n, h2 n], fun n => by rw [h.has_ n, h2 n]⟩
theorem groups_map {w : World} {P : Program} {k e : TypeId} {base b n : Nat} {D : DataW Unit} (h : w.ownsGroups P k base e .i64 b n D) : w.ownsMap P k (rowElem w base e .i64) b n D := by
  obtain ⟨es, clock, h1, h2, h3, h4, -⟩ := h
  exact ⟨es, clock, h1, h2, h3, h4⟩
/-- the groups by how many of the first j lengths -/
def gj4 (p : P4) (wh : Int) (u : W4) (j : Nat) (n : Int) : List Int := ((ln4 p).take j).filter fun l => ((wr4 p wh u l : Nat) : Int) == n
theorem gj4_zero {p : P4} {wh : Int} {u : W4} (n : Int) : gj4 p wh u 0 n = [] := rfl
theorem gj4_yes {p : P4} {wh : Int} {u : W4} {j : Nat} (h : p.glo + j ≤ p.ghi) : gj4 p wh u (j + 1) (wr4 p wh u (p.glo + j)) = gj4 p wh u j (wr4 p wh u (p.glo + j)) ++ [p.glo + j] := by
  unfold gj4
  rw [List.take_add_one, show (ln4 p)[j]? = some (p.glo + j) from ups_get h, List.filter_append]
  simp
theorem gj4_no {p : P4} {wh : Int} {u : W4} {j : Nat} {n : Int} (h : p.glo + j ≤ p.ghi) (hn : n ≠ (wr4 p wh u (p.glo + j) : Nat)) : gj4 p wh u (j + 1) n = gj4 p wh u j n := by
  unfold gj4
  rw [List.take_add_one, show (ln4 p)[j]? = some (p.glo + j) from ups_get h, List.filter_append]
  have : (((wr4 p wh u (p.glo + j) : Nat) : Int) == n) = false := by simpa using fun e => hn e.symm
  simp [this]
theorem gj4_len {p : P4} {wh : Int} {u : W4} {j : Nat} {n : Int} : (gj4 p wh u j n).length ≤ j := Nat.le_trans (List.length_filter_le _ _) (by simp; omega)
/-- the sorted keys of a map -/
theorem keys_sorted {H : Type} {P : Program} {k : TypeId} {R : Value → Option (DataW H × List MemPlace)} {w : World} {b nn : Nat} {D0 : DataW H} {ss L : List Int} (hown : w.ownsMap P k R b nn D0) (hk : P.underlying k = some (.int .i64)) (hs : ss.Perm (intKeys D0))
    (hL : L.Pairwise (· < ·)) (hm : ∀ x, x ∈ L ↔ has D0 (.int .i64 x) = true) : ss.mergeSort (fun x y => decide (x ≤ y)) = L := by
  have hC : CollectedI D0 (fun _ => false) L := ⟨hL.imp fun {a b} h e => by omega, fun x => by rw [hm x]; simp⟩
  have hp : L.Perm (intKeys D0) := hC.perm hown (int_keyed hk) hk (fun _ => rfl)
  have h1 := mergeSort_of_perm_i (hs.trans hp.symm)
  rw [show (fun x y : Int => decide (x ≤ y)) = leI from rfl, h1]
  exact List.mergeSort_of_pairwise (hL.imp fun {a b} h => by simp; omega)
theorem ups_pair {a b : Int} : (ups a b).Pairwise (· < ·) := by
  unfold ups
  rw [List.pairwise_map]
  exact List.pairwise_lt_range.imp fun {x y} h => by omega

end Go.Proofs.YtcbeiadimchknaaGreat

namespace Go.Proofs.YtcbeiadimchknaaGreat
open Go.RowKit Go.Maps Go.Sort Go.ChangeShapes
open Go.Sort (grow)
set_option linter.unusedVariables false
set_option linter.unusedSimpArgs false

theorem int4_info : (Tryz.prog.info? 3).map (fun i => (i.zero, i.size, i.bytes)) = some (some (.int .i64 0), 1, 8) := by kernel_rfl
theorem int4E : ElemT Tryz.prog 29 3 1 8 := by
  obtain ⟨i0, hi0, hz0, hz1, hz2⟩ := info_parts int4_info
  exact ⟨Tryz.underlying29, ⟨i0, _, hi0, hz0, hz1, hz2, rfl⟩, by omega, by omega⟩
theorem grp4_info : (Tryz.prog.info? 103).map (fun i => (i.zero, i.size, i.bytes)) = some (some (.agg #[.int .i64 0, .slice none 0 0]), 2, 32) := by kernel_rfl
theorem grp4E : ElemT Tryz.prog 169 103 2 32 := by
  obtain ⟨i0, hi0, hz0, hz1, hz2⟩ := info_parts grp4_info
  exact ⟨Tryz.underlying169, ⟨i0, _, hi0, hz0, hz1, hz2, rfl⟩, by omega, by omega⟩
theorem zeroS4 (w : World) : (zeroValue 29).run Tryz.prog w = .ok (.slice none 0 0) w := by kernel_rfl
/-- a group in memory -/
structure Hg4 where
  w : Int
  h : Hd
def encG4 (x : Hg4) : List Value := [.int .i64 x.w, .slice x.h.A x.h.n x.h.c]
theorem encG4_len (x : Hg4) : (encG4 x).length = 2 := rfl
theorem encG4_one (x : Hg4) : ∀ u ∈ encG4 x, u.oneCell' = true := by
  intro u hu; simp only [encG4, List.mem_cons, List.not_mem_nil, or_false] at hu; rcases hu with rfl | rfl <;> rfl
def hgAt (hs : List Hg4) (k : Nat) : Hg4 := hs.getD k ⟨0, ⟨none, 0, 0⟩⟩
def ggAt (gs : List (Nat × List Int)) (k : Nat) : Nat × List Int := gs.getD k (0, [])
theorem hgAt_lt {hs : List Hg4} {h : Hg4} {k : Nat} (hk : k < hs.length) : hgAt (hs ++ [h]) k = hgAt hs k := by
  unfold hgAt; rw [List.getD_eq_getElem?_getD, List.getD_eq_getElem?_getD, List.getElem?_append_left hk]
theorem hgAt_eq {hs : List Hg4} {h : Hg4} : hgAt (hs ++ [h]) hs.length = h := by
  unfold hgAt; rw [List.getD_eq_getElem?_getD, List.getElem?_append_right (Nat.le_refl _), Nat.sub_self]; rfl
theorem ggAt_lt {hs : List (Nat × List Int)} {h : Nat × List Int} {k : Nat} (hk : k < hs.length) : ggAt (hs ++ [h]) k = ggAt hs k := by
  unfold ggAt; rw [List.getD_eq_getElem?_getD, List.getD_eq_getElem?_getD, List.getElem?_append_left hk]
theorem ggAt_eq {hs : List (Nat × List Int)} {h : Nat × List Int} : ggAt (hs ++ [h]) hs.length = h := by
  unfold ggAt; rw [List.getD_eq_getElem?_getD, List.getElem?_append_right (Nat.le_refl _), Nat.sub_self]; rfl
/-- one row of lengths, at or above a block -/
def RowB (base : Nat) (w : World) (h : Hd) (l : List Int) : Prop := IntsAt w h.A h.n l ∧ ∀ a, h.A = some a → base ≤ a.block ∧ a.block < w.heap.size
/-- a slice of groups reads as a list of groups; all its memory lies at or above a block -/
structure GsAt4 (base : Nat) (w : World) (A : Option Addr) (n : Nat) (hs : List Hg4) (gs : List (Nat × List Int)) : Prop where
  sl : SlAt encG4 2 ⟨0, ⟨none, 0, 0⟩⟩ w A n hs
  gl : gs.length = n
  bs : ∀ a, A = some a → base ≤ a.block ∧ a.block < w.heap.size
  inn : ∀ k, k < n → (hgAt hs k).w = ((ggAt gs k).1 : Int) ∧ RowB base w (hgAt hs k).h (ggAt gs k).2
section
variable {base : Nat} {w w' : World} {A : Option Addr} {n : Nat} {hs : List Hg4} {gs : List (Nat × List Int)}
theorem RowB.later {h : Hd} {l : List Int} (H : RowB base w h l) (hb : Below w.heap.size w w') : RowB base w' h l := ⟨H.1.later hb, fun a e => ⟨(H.2 a e).1, Nat.lt_of_lt_of_le (H.2 a e).2 hb.size⟩⟩
theorem GsAt4.later (h : GsAt4 base w A n hs gs) (hb : Below w.heap.size w w') : GsAt4 base w' A n hs gs :=
  ⟨⟨h.sl.1, h.sl.2.later hb⟩, h.gl, fun a e => ⟨(h.bs a e).1, Nat.lt_of_lt_of_le (h.bs a e).2 hb.size⟩, fun k hk => ⟨(h.inn k hk).1, (h.inn k hk).2.later hb⟩⟩
theorem GsAt4.get (h : GsAt4 base w A n hs gs) {k : Nat} (hk : k < n) :
    ∃ b off, A = some ⟨b, off, none⟩ ∧ b < w.heap.size ∧ w.cell? ⟨b, off + k * 2, none⟩ = some (.int .i64 (ggAt gs k).1) ∧ w.cell? ⟨b, off + k * 2 + 1, none⟩ = some (.slice (hgAt hs k).h.A (hgAt hs k).h.n (hgAt hs k).h.c) ∧ RowB base w (hgAt hs k).h (ggAt gs k).2 := by
  obtain ⟨b, off, e, hb, hc⟩ := h.sl.2 (by omega)
  have h0 := hc k hk 0 _ rfl
  have h1 := hc k hk 1 _ rfl
  rw [show ((hs.getD k ⟨0, ⟨none, 0, 0⟩⟩ : Hg4)) = hgAt hs k from rfl] at h0 h1
  rw [(h.inn k hk).1] at h0
  exact ⟨b, off, e, hb, h0, h1, (h.inn k hk).2⟩
end
/-- groups that the call itself makes: the slice in a block at or above base, the rows in others, at or above rb -/
structure OwnGs (base rb : Nat) (w : World) (v : Value) (n : Nat) (hs : List Hg4) (gs : List (Nat × List Int)) : Prop where
  own : w.ownsRow base 103 2 v n (hs.flatMap encG4)
  hl : hs.length = n
  gl : gs.length = n
  inn : ∀ k, k < n → (hgAt hs k).w = ((ggAt gs k).1 : Int) ∧ IntsAt w (hgAt hs k).h.A (hgAt hs k).h.n (ggAt gs k).2 ∧ ∀ a, (hgAt hs k).h.A = some a → rb ≤ a.block ∧ a.block < base
section
variable {base rb : Nat} {w w' : World} {v : Value} {n : Nat} {hs : List Hg4} {gs : List (Nat × List Int)}
theorem OwnGs.nil (w : World) (base rb : Nat) : OwnGs base rb w (.slice none 0 0) 0 [] [] :=
  ⟨World.ownsRow_nil w base _ 2, rfl, rfl, fun k hk => absurd hk (by omega)⟩
theorem OwnGs.at_ (h : OwnGs base rb w v n hs gs) (hr : rb ≤ base) (hb : base ≤ w.heap.size) : ∃ A c, v = .slice A n c ∧ GsAt4 rb w A n hs gs := by
  obtain ⟨A, c, rfl, -, hsl⟩ := SlAt.of_own (d := (⟨0, ⟨none, 0, 0⟩⟩ : Hg4)) encG4_len h.own h.hl
  exact ⟨A, c, rfl, hsl, h.gl, fun a e => by have := own_addr h.own a e; omega, fun k hk => ⟨(h.inn k hk).1, (h.inn k hk).2.1, fun a e => by have := (h.inn k hk).2.2 a e; omega⟩⟩
theorem OwnGs.push (h : OwnGs base rb w v n hs gs) {o : Obj} {v' : Value} {x : Hg4} {g : Nat × List Int} (hx : x.w = (g.1 : Int)) (hi : IntsAt w x.h.A x.h.n g.2) (hne : ∀ a, x.h.A = some a → rb ≤ a.block ∧ a.block < base)
    (ho : w'.ownsRow base 103 2 v' (n + 1) ((hs ++ [x]).flatMap encG4)) (hg : (w.alloc o).grownBy w' v.ownBlock) (hbs : base ≤ w.heap.size) : OwnGs base rb w' v' (n + 1) (hs ++ [x]) (gs ++ [g]) := by
  have one : ∀ (y : Hg4) (ys : List Int), IntsAt w y.h.A y.h.n ys → (∀ a, y.h.A = some a → rb ≤ a.block ∧ a.block < base) → IntsAt w' y.h.A y.h.n ys := by
    intro y ys h1 h2
    exact IntsAt.grown (h1.later ((Below.refl _ _).alloc (Nat.le_refl _) o)) hg fun a e e' => by have := (h2 a e).2; have := (h.own.lt _ e').1; omega
  have el := h.hl
  have eg := h.gl
  refine ⟨ho, by simp [h.hl], by simp [h.gl], fun k hk => ?_⟩
  rcases Nat.lt_succ_iff_lt_or_eq.1 hk with h' | rfl
  · rw [hgAt_lt (by omega), ggAt_lt (by omega)]
    exact ⟨(h.inn k h').1, one _ _ (h.inn k h').2.1 (h.inn k h').2.2, (h.inn k h').2.2⟩
  · have e1 := hgAt_eq (hs := hs) (h := x)
    have e2 := ggAt_eq (hs := gs) (h := g)
    rw [el] at e1
    rw [eg] at e2
    rw [e1, e2]
    exact ⟨hx, one _ _ hi hne, hne⟩
end
/-- what groups hands back -/
def Grp4 (w : World) (gs : List (Nat × List Int)) (e : Ending) (w' : World) : Prop :=
  ∃ A c hs, e = .returned (.slice A gs.length c) ∧ GsAt4 w.heap.size w' A gs.length hs gs ∧ Below w.heap.size w w'

end Go.Proofs.YtcbeiadimchknaaGreat
