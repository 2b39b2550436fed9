/- The chapter's example reckoned (layer 1); A number within bounds; Chains (layer 2): deeds and sights in plain Lean, and in memory; how long a cable is; The small functions of links (layer 2). -/
import Derived.Test.YtdhlnlmhdacblaaTs15
import Derived.Test.YtdhlnlmhdacblaaTs12
import Derived.Test.YtdhlnlmhdacblaaTs16
import Derived.Test.YtdhlnlmhdacblaaTs23
import Derived.Test.YtdhlnlmhdacblaaTs11
import Derived.Test.YtdhlnlmhdacblaaTs13
import Derived.Test.YtdhlnlmhdacblaaTs03
import Derived.Test.YtdhlnlmhdacblaaTs02
import Derived.Test.YtdhlnlmhdacblaaChecked
import Derived.Shelf.Abstract
import Derived.Laws.EntriesVeiled
namespace Go.Proofs.Ytdhlnlmhdacblaa
open Go.RowKit
open Go.Sort (grow)
set_option linter.unusedVariables false
set_option linter.unusedSimpArgs false

def exB : List Br := [⟨3, 100⟩, ⟨5, 60⟩, ⟨3, 45⟩]
def exP : List Pc := [⟨50, [3, 5]⟩, ⟨45, [3]⟩, ⟨40, [3, 8]⟩]
theorem ev_ask (is : Bool) (h : is = true) : askE exB exP 5 0 is = 0 := by subst h; kernel_rfl
theorem ev_many : manyR exB exP 5 0 = 5 := by kernel_rfl
theorem ev_of : ofP exB exP 5 0 1 = [0, 2] := by kernel_rfl
theorem ev_rest : restP exB exP 5 0 0 = (⟨0, 60⟩, 0) := by kernel_rfl
theorem ev_room : roomP exB exP 5 0 50 = (3, 0) := by kernel_rfl
theorem ev_plan : planP exB exP 5 0 = [0, 0, 2] := by kernel_rfl
theorem ev_least : leastP exB exP 5 0 = 2 := by
  have h : ∀ v ∈ planP exB exP 5 0, ∃ k : Nat, k < 3 ∧ v = (k : Int) := by
    rw [ev_plan]
    intro v hv
    simp at hv
    rcases hv with rfl | rfl
    · exact ⟨0, by omega, rfl⟩
    · exact ⟨2, by omega, rfl⟩
  unfold leastP
  show ((srtC (planP exB exP 5 0)).length : Int) = 2
  rw [srtC_upto h, uptoL_len, ev_plan]
  decide

theorem sl_cells {α : Type} {enc : α → List Value} {size : Nat} {d : α} (hs : ∀ x, (enc x).length = size) {w : World} {cs : Array Value} {ys : List α} {g m : Nat} (hg : g < w.heap.size) (hc : ∀ i, w.cell? ⟨g, i, none⟩ = cs[i]?) (hl : ys.length = m) (hcs : cs.toList = ys.flatMap enc) :
    SlAt enc size d w (some ⟨g, 0, none⟩) m ys := by
  refine ⟨hl, fun _ => ⟨g, 0, rfl, hg, fun k hk j u hu => ?_⟩⟩
  have hj : j < size := by
    have := (List.getElem?_eq_some_iff.1 hu).1
    rwa [hs] at this
  rw [hc, Nat.zero_add, ← Array.getElem?_toList, hcs, flat_get (d := d) hs ys k j hj (by omega)]
  exact hu
set_option maxRecDepth 100000 in
set_option maxHeartbeats 1600000 in
theorem Example_c (w : World) :
    Calls Try.prog 32 #[] w fun e w' => ∃ A1 A2 ms, e = .returned (.agg #[.slice A1 3 3, .int .i64 5, .slice A2 3 3, .int .i64 0]) ∧ BrsAt w' A1 3 exB ∧ PcsAt w' A2 3 ms exP ∧ Below w.heap.size w w' := by
  go_enter Try.func32, Try.ntmps32
  go_wp2_with fail
  obtain ⟨W, hW⟩ : ∃ W, (((((w.alloc (.cells #[.slice (some ⟨w.heap.size + 1, 0, none⟩) 3 3, .int .i64 5, .slice (some ⟨w.heap.size + 1 + 1 + 1 + 1 + 1, 0, none⟩) 3 3, .int .i64 0] 25)).alloc (.cells #[.int .i64 3, .int .i64 100, .int .i64 5, .int .i64 60, .int .i64 3, .int .i64 45] 35)).alloc (.cells #[.int .i64 3, .int .i64 5] 3)).alloc (.cells #[.int .i64 3] 3)).alloc (.cells #[.int .i64 3, .int .i64 8] 3)).alloc (.cells #[.int .i64 50, .slice (some ⟨w.heap.size + 1 + 1, 0, none⟩) 2 2, .int .i64 45, .slice (some ⟨w.heap.size + 1 + 1 + 1, 0, none⟩) 1 1, .int .i64 40, .slice (some ⟨w.heap.size + 1 + 1 + 1 + 1, 0, none⟩) 2 2] 38) = W := ⟨_, rfl⟩
  rw [hW]
  have BW : Below w.heap.size w W := (al6 hW).1
  have c0 := (al6_0 hW).2.1
  have s1 := (al6_1 hW)
  have s2 := (al6_2 hW)
  have s3 := (al6_3 hW)
  have s4 := (al6_4 hW)
  have s5 := (al6_5 hW)
  have i2 : IntsAt W (some ⟨w.heap.size + 1 + 1, 0, none⟩) 2 [3, 5] := ints_iff.2 (sl_cells encI_len s2.1 s2.2.1 rfl rfl)
  have i3 : IntsAt W (some ⟨w.heap.size + 1 + 1 + 1, 0, none⟩) 1 [3] := ints_iff.2 (sl_cells encI_len s3.1 s3.2.1 rfl rfl)
  have i4 : IntsAt W (some ⟨w.heap.size + 1 + 1 + 1 + 1, 0, none⟩) 2 [3, 8] := ints_iff.2 (sl_cells encI_len s4.1 s4.2.1 rfl rfl)
  have hp : PcsAt W (some ⟨w.heap.size + 1 + 1 + 1 + 1 + 1, 0, none⟩) 3 [⟨50, ⟨some ⟨w.heap.size + 1 + 1, 0, none⟩, 2, 2⟩⟩, ⟨45, ⟨some ⟨w.heap.size + 1 + 1 + 1, 0, none⟩, 1, 1⟩⟩, ⟨40, ⟨some ⟨w.heap.size + 1 + 1 + 1 + 1, 0, none⟩, 2, 2⟩⟩] exP := by
    refine ⟨sl_cells encP_len s5.1 s5.2.1 rfl rfl, rfl, fun k hk => ?_, fun k hk => ?_⟩
    · match k, hk with
      | 0, _ => rfl
      | 1, _ => rfl
      | 2, _ => rfl
    · match k, hk with
      | 0, _ => exact i2
      | 1, _ => exact i3
      | 2, _ => exact i4
  exact bodyPost_ret (v := .agg #[.slice (some ⟨w.heap.size + 1, 0, none⟩) 3 3, .int .i64 5, .slice (some ⟨w.heap.size + 1 + 1 + 1 + 1 + 1, 0, none⟩) 3 3, .int .i64 0]) (by simp [results, Try.results32, go_sem, c0]) rfl ⟨_, _, _, rfl, sl_cells encB_len s1.1 s1.2.1 rfl rfl, hp, BW⟩

theorem ev_same1 : (2 == 2 && allN 2 fun k => iAt [0, 2] k == iAt [0, 2] k) = true := by decide
theorem ex_h3 : ∀ k, k < 3 → (pcAt exP k).hs.length ≤ 40 := by
  intro k hk
  match k, hk with
  | 0, _ => decide
  | 1, _ => decide
  | 2, _ => decide

end Go.Proofs.Ytdhlnlmhdacblaa

namespace Go.Proofs.Ytdhlnlmhdacblaa
open Go.RowKit
open Go.Sort (grow)
set_option linter.unusedVariables false
set_option linter.unusedSimpArgs false

def wn (n a b : Int) : Bool := decide (a ≤ n) && decide (n ≤ b)
theorem wn_true {x a b : Int} : wn x a b = true ↔ a ≤ x ∧ x ≤ b := by simp [wn]
theorem own_at {w : World} {base : Nat} {e : TypeId} {g n c k : Nat} {xs : List Int} (h : w.ownsRow base e 1 (.slice (some ⟨g, 0, none⟩) n c) n (xs.flatMap encI)) (hl : xs.length = n) (hk : k < n) :
    w.cell? ⟨g, k, none⟩ = some (.int .i64 (iAt xs k)) := by
  have h1 := (h.cellAt (k * 1 + 0) (by omega)).trans (flat_get (d := (0 : Int)) encI_len xs k 0 (by omega) (by omega))
  simpa [encI, iAt] using h1

end Go.Proofs.Ytdhlnlmhdacblaa

namespace Go.Proofs.Ytdhlnlmhdacblaa
open Go.RowKit
open Go.Sort (grow)
set_option linter.unusedVariables false
set_option linter.unusedSimpArgs false

structure Dd where
  wh : Int
  pl : Int
  fr : Int
  ba : Int
  sm : Int
def encD (d : Dd) : List Value := [.int .i64 d.wh, .int .i64 d.pl, .int .i64 d.fr, .int .i64 d.ba, .int .i64 d.sm]
theorem encD_len (x : Dd) : (encD x).length = 5 := rfl
theorem encD_one (x : Dd) : ∀ u ∈ encD x, u.oneCell' = true := by
  intro u hu; simp only [encD, List.mem_cons, List.not_mem_nil, or_false] at hu; rcases hu with rfl | rfl | rfl | rfl | rfl <;> rfl
def ddAt (ds : List Dd) (k : Nat) : Dd := ds.getD k ⟨0, 0, 0, 0, 0⟩
def DdsAt (w : World) (A : Option Addr) (n : Nat) (ds : List Dd) : Prop := SlAt encD 5 ⟨0, 0, 0, 0, 0⟩ w A n ds
section
variable {w w' : World} {A : Option Addr} {n : Nat}
theorem DdsAt.later {ds : List Dd} (h : DdsAt w A n ds) (hb : Below w.heap.size w w') : DdsAt w' A n ds := ⟨h.1, h.2.later hb⟩
theorem DdsAt.get {ds : List Dd} (h : DdsAt w A n ds) {k : Nat} (hk : k < n) :
    ∃ b off, A = some ⟨b, off, none⟩ ∧ b < w.heap.size ∧ w.cell? ⟨b, off + k * 5, none⟩ = some (.int .i64 (ddAt ds k).wh) ∧ w.cell? ⟨b, off + k * 5 + 1, none⟩ = some (.int .i64 (ddAt ds k).pl) ∧
      w.cell? ⟨b, off + k * 5 + 2, none⟩ = some (.int .i64 (ddAt ds k).fr) ∧ w.cell? ⟨b, off + k * 5 + 3, none⟩ = some (.int .i64 (ddAt ds k).ba) ∧ w.cell? ⟨b, off + k * 5 + 4, none⟩ = some (.int .i64 (ddAt ds k).sm) := by
  obtain ⟨b, off, e, hb, hc⟩ := h.2 (by omega)
  exact ⟨b, off, e, hb, hc k hk 0 _ rfl, hc k hk 1 _ rfl, hc k hk 2 _ rfl, hc k hk 3 _ rfl, hc k hk 4 _ rfl⟩
end
/-- by how many links a cable grows by a deed -/
def gr2 (d : Dd) : Int := bif d.wh == 1 then 1 else (bif d.wh == 2 then -1 else 0)
/-- how many links there are behind k deeds -/
def ln2 (ds : List Dd) (k : Nat) : Int := ((List.range k).map fun i => gr2 (ddAt ds i)).sum
theorem ln2_0 {ds : List Dd} : ln2 ds 0 = 0 := rfl
theorem ln2_succ {ds : List Dd} {k : Nat} : ln2 ds (k + 1) = ln2 ds k + gr2 (ddAt ds k) := by
  unfold ln2
  rw [List.range_succ, List.map_append, List.sum_append]; simp
theorem gr2_bd {d : Dd} : -1 ≤ gr2 d ∧ gr2 d ≤ 1 := by
  unfold gr2
  cases d.wh == 1 <;> cases d.wh == 2 <;> simp
theorem ln2_bd {ds : List Dd} : ∀ k : Nat, -(k : Int) ≤ ln2 ds k ∧ ln2 ds k ≤ k := by
  intro k
  induction k with
  | zero => rw [ln2_0]; omega
  | succ k ih =>
    have := gr2_bd (d := ddAt ds k)
    rw [ln2_succ]; omega
def dk2 (d : Dd) (m : Int) : Bool :=
  bif d.wh == 1 then wn d.fr 0 2 && (wn d.pl 0 m && (wn d.ba 0 99 && wn d.sm 0 99)) else
    bif d.wh == 2 then wn d.fr 0 2 && (wn d.pl 0 (m - 1) && ((d.ba == 0) && (d.sm == 0))) else
      bif d.wh == 3 || d.wh == 4 then (d.pl == 0) && ((d.fr == 0) && ((d.ba == 0) && (d.sm == 0))) else false
def sk2 (s : Dd) (nd : Nat) (ds : List Dd) : Bool := wn s.wh 0 nd && (wn s.fr 0 1 && (wn s.pl 0 (ln2 ds s.wh.toNat - 1) && (wn s.ba (-1) 99 && wn s.sm (-1) 99)))
/-- a chain: its deeds, its sights (after, at, from, bar, smith), how many sights can be wrong -/
def ck2 (ds ss : List Dd) (nd ns : Nat) (wr : Int) : Bool :=
  decide (nd ≤ 12) && (decide (ns ≤ 8) && (wn wr 0 8 && (allN nd (fun k => dk2 (ddAt ds k) (ln2 ds k)) && allN ns (fun k => sk2 (ddAt ss k) nd ds))))

end Go.Proofs.Ytdhlnlmhdacblaa

namespace Go.Proofs.Ytdhlnlmhdacblaa
open Go.RowKit
open Go.Sort (grow)
set_option linter.unusedVariables false
set_option linter.unusedSimpArgs false

set_option maxHeartbeats 400000 in
theorem within2_c (n a b : Int) (w : World) :
    Calls Try.prog 53 #[.int .i64 n, .int .i64 a, .int .i64 b] w fun e w' => e = .returned (.bool (wn n a b)) ∧ w = w' := by
  go_enter Try.func53, Try.ntmps53
  go_wp2
  all_goals
    go_ret
    exact ⟨ret_bool (by simp [wn, *] <;> omega), rfl⟩
set_option maxHeartbeats 400000 in
theorem Within2_c (n a b : Int) (w : World) :
    Calls Try.prog 29 #[.int .i64 n, .int .i64 a, .int .i64 b] w fun e w' => e = .returned (.bool (wn n a b)) ∧ w = w' := by
  go_enter Try.func29, Try.ntmps29
  go_wp2
  all_goals
    go_ret
    exact ⟨ret_bool (by simp [wn, *] <;> omega), rfl⟩
set_option maxHeartbeats 400000 in
theorem isMark_c (x y a : Int) (w : World) :
    Calls Try.prog 56 #[.int .i64 x, .int .i64 y, .int .i64 a] w fun e w' => e = .returned (.bool (wn x a 99 && wn y a 99)) ∧ w = w' := by
  go_enter Try.func56, Try.ntmps56
  go_wp2_with (go_at_call 53; refine (within2_c _ _ _ _).mono ?_; rintro e w' ⟨rfl, rfl⟩)
  all_goals
    go_ret
    exact ⟨ret_bool (by simp [*]), rfl⟩
set_option maxHeartbeats 400000 in
theorem grows_c (d : Dd) (w : World) :
    Calls Try.prog 55 #[.agg #[.int .i64 d.wh, .int .i64 d.pl, .int .i64 d.fr, .int .i64 d.ba, .int .i64 d.sm]] w fun e w' => e = .returned (.int .i64 (gr2 d)) ∧ Below w.heap.size w w' := by
  obtain ⟨wh, pl, fr, ba, sm⟩ := d
  unfold gr2
  simp only
  cases e1 : (wh == 1) <;> cases e2 : (wh == 2)
  all_goals
    go_enter Try.func55, Try.ntmps55
    go_wp2
    go_ret
    exact ⟨rfl, by (repeat first | with_reducible assumption | with_reducible exact Below.refl _ _ | (with_reducible refine Below.alloc ?_ ?side _; case side => (first | omega | (with_reducible exact Below.size (by assumption)) | (simp; done) | (simp; omega))) | (with_reducible refine Below.setCell ?_ ?side _; case side => (first | omega | (with_reducible exact Below.size (by assumption)) | (simp; done) | (simp; omega))) | with_reducible refine Below.drew ?_ | with_reducible refine below_drewN ?_ _ | (with_reducible refine below_step (by assumption) ?side ?_; case side => (first | omega | (with_reducible exact Below.size (by assumption)) | (simp; done) | (simp; omega))))⟩
set_option maxRecDepth 100000 in
set_option maxHeartbeats 1600000 in
theorem isDeed_c (d : Dd) (m : Int) (w : World) (hm : -40 ≤ m ∧ m ≤ 40) :
    Calls Try.prog 54 #[.agg #[.int .i64 d.wh, .int .i64 d.pl, .int .i64 d.fr, .int .i64 d.ba, .int .i64 d.sm], .int .i64 m] w fun e w' => e = .returned (.bool (dk2 d m)) ∧ Below w.heap.size w w' := by
  obtain ⟨wh, pl, fr, ba, sm⟩ := d
  have hw : IntKind.i64.wrap (m - 1) = m - 1 := IntWalk.i64_in _ (by omega)
  have k0 : (pl == pl) = true := by simp
  have k1 : (fr == fr) = true := by simp
  have k2 : (wh == wh) = true := by simp
  unfold dk2
  simp only
  cases e1 : (wh == 1)
  · cases e2 : (wh == 2)
    · cases e3 : (wh == 3)
      · cases e4 : (wh == 4)
        · go_enter Try.func54, Try.ntmps54
          go_wp2
          go_ret
          exact ⟨rfl, by (repeat first | with_reducible assumption | with_reducible exact Below.refl _ _ | (with_reducible refine Below.alloc ?_ ?side _; case side => (first | omega | (with_reducible exact Below.size (by assumption)) | (simp; done) | (simp; omega))) | (with_reducible refine Below.setCell ?_ ?side _; case side => (first | omega | (with_reducible exact Below.size (by assumption)) | (simp; done) | (simp; omega))) | with_reducible refine Below.drew ?_ | with_reducible refine below_drewN ?_ _ | (with_reducible refine below_step (by assumption) ?side ?_; case side => (first | omega | (with_reducible exact Below.size (by assumption)) | (simp; done) | (simp; omega))))⟩
        · cases h1 : (pl == 0) <;> cases h2 : (fr == 0) <;> cases h3 : (ba == 0) <;> cases h4 : (sm == 0)
          all_goals
            go_enter Try.func54, Try.ntmps54
            go_wp2
            go_ret
            exact ⟨ret_bool (by first | rfl | simp [*]), by (repeat first | with_reducible assumption | with_reducible exact Below.refl _ _ | (with_reducible refine Below.alloc ?_ ?side _; case side => (first | omega | (with_reducible exact Below.size (by assumption)) | (simp; done) | (simp; omega))) | (with_reducible refine Below.setCell ?_ ?side _; case side => (first | omega | (with_reducible exact Below.size (by assumption)) | (simp; done) | (simp; omega))) | with_reducible refine Below.drew ?_ | with_reducible refine below_drewN ?_ _ | (with_reducible refine below_step (by assumption) ?side ?_; case side => (first | omega | (with_reducible exact Below.size (by assumption)) | (simp; done) | (simp; omega))))⟩
      · cases h1 : (pl == 0) <;> cases h2 : (fr == 0) <;> cases h3 : (ba == 0) <;> cases h4 : (sm == 0)
        all_goals
          go_enter Try.func54, Try.ntmps54
          go_wp2
          go_ret
          exact ⟨ret_bool (by first | rfl | simp [*]), by (repeat first | with_reducible assumption | with_reducible exact Below.refl _ _ | (with_reducible refine Below.alloc ?_ ?side _; case side => (first | omega | (with_reducible exact Below.size (by assumption)) | (simp; done) | (simp; omega))) | (with_reducible refine Below.setCell ?_ ?side _; case side => (first | omega | (with_reducible exact Below.size (by assumption)) | (simp; done) | (simp; omega))) | with_reducible refine Below.drew ?_ | with_reducible refine below_drewN ?_ _ | (with_reducible refine below_step (by assumption) ?side ?_; case side => (first | omega | (with_reducible exact Below.size (by assumption)) | (simp; done) | (simp; omega))))⟩
    · cases h3 : (ba == 0) <;> cases h4 : (sm == 0)
      all_goals
        go_enter Try.func54, Try.ntmps54
        go_wp2_with (go_at_call 53; refine (within2_c _ _ _ _).mono ?_; rintro e w' ⟨rfl, rfl⟩)
        all_goals
          go_ret
          exact ⟨ret_bool (by first | rfl | simp [*]), by (repeat first | with_reducible assumption | with_reducible exact Below.refl _ _ | (with_reducible refine Below.alloc ?_ ?side _; case side => (first | omega | (with_reducible exact Below.size (by assumption)) | (simp; done) | (simp; omega))) | (with_reducible refine Below.setCell ?_ ?side _; case side => (first | omega | (with_reducible exact Below.size (by assumption)) | (simp; done) | (simp; omega))) | with_reducible refine Below.drew ?_ | with_reducible refine below_drewN ?_ _ | (with_reducible refine below_step (by assumption) ?side ?_; case side => (first | omega | (with_reducible exact Below.size (by assumption)) | (simp; done) | (simp; omega))))⟩
  · go_enter Try.func54, Try.ntmps54
    go_wp2_with (first | (go_at_call 53; refine (within2_c _ _ _ _).mono ?_; rintro e w' ⟨rfl, rfl⟩) | (go_at_call 56; refine (isMark_c _ _ _ _).mono ?_; rintro e w' ⟨rfl, rfl⟩))
    all_goals
      go_ret
      exact ⟨ret_bool (by first | rfl | simp [*]), by (repeat first | with_reducible assumption | with_reducible exact Below.refl _ _ | (with_reducible refine Below.alloc ?_ ?side _; case side => (first | omega | (with_reducible exact Below.size (by assumption)) | (simp; done) | (simp; omega))) | (with_reducible refine Below.setCell ?_ ?side _; case side => (first | omega | (with_reducible exact Below.size (by assumption)) | (simp; done) | (simp; omega))) | with_reducible refine Below.drew ?_ | with_reducible refine below_drewN ?_ _ | (with_reducible refine below_step (by assumption) ?side ?_; case side => (first | omega | (with_reducible exact Below.size (by assumption)) | (simp; done) | (simp; omega))))⟩
set_option maxRecDepth 100000 in
set_option maxHeartbeats 1600000 in
theorem refDeed_c (d : Dd) (m : Int) (w : World) (hm : -40 ≤ m ∧ m ≤ 40) :
    Calls Try.prog 52 #[.agg #[.int .i64 d.wh, .int .i64 d.pl, .int .i64 d.fr, .int .i64 d.ba, .int .i64 d.sm], .int .i64 m] w fun e w' => e = .returned (.bool (dk2 d m)) ∧ Below w.heap.size w w' := by
  obtain ⟨wh, pl, fr, ba, sm⟩ := d
  have hw : IntKind.i64.wrap (m - 1) = m - 1 := IntWalk.i64_in _ (by omega)
  have k2 : (wh == wh) = true := by simp
  unfold dk2
  simp only
  cases e1 : (wh == 1)
  · cases e2 : (wh == 2)
    · cases e3 : (wh == 3)
      · cases e4 : (wh == 4)
        · go_enter Try.func52, Try.ntmps52
          go_wp2
          go_ret
          exact ⟨rfl, by (repeat first | with_reducible assumption | with_reducible exact Below.refl _ _ | (with_reducible refine Below.alloc ?_ ?side _; case side => (first | omega | (with_reducible exact Below.size (by assumption)) | (simp; done) | (simp; omega))) | (with_reducible refine Below.setCell ?_ ?side _; case side => (first | omega | (with_reducible exact Below.size (by assumption)) | (simp; done) | (simp; omega))) | with_reducible refine Below.drew ?_ | with_reducible refine below_drewN ?_ _ | (with_reducible refine below_step (by assumption) ?side ?_; case side => (first | omega | (with_reducible exact Below.size (by assumption)) | (simp; done) | (simp; omega))))⟩
        · cases h1 : (pl == 0) <;> cases h2 : (fr == 0) <;> cases h3 : (ba == 0) <;> cases h4 : (sm == 0)
          all_goals
            go_enter Try.func52, Try.ntmps52
            go_wp2
            go_ret
            exact ⟨ret_bool (by first | rfl | simp [*]), by (repeat first | with_reducible assumption | with_reducible exact Below.refl _ _ | (with_reducible refine Below.alloc ?_ ?side _; case side => (first | omega | (with_reducible exact Below.size (by assumption)) | (simp; done) | (simp; omega))) | (with_reducible refine Below.setCell ?_ ?side _; case side => (first | omega | (with_reducible exact Below.size (by assumption)) | (simp; done) | (simp; omega))) | with_reducible refine Below.drew ?_ | with_reducible refine below_drewN ?_ _ | (with_reducible refine below_step (by assumption) ?side ?_; case side => (first | omega | (with_reducible exact Below.size (by assumption)) | (simp; done) | (simp; omega))))⟩
      · cases h1 : (pl == 0) <;> cases h2 : (fr == 0) <;> cases h3 : (ba == 0) <;> cases h4 : (sm == 0)
        all_goals
          go_enter Try.func52, Try.ntmps52
          go_wp2
          go_ret
          exact ⟨ret_bool (by first | rfl | simp [*]), by (repeat first | with_reducible assumption | with_reducible exact Below.refl _ _ | (with_reducible refine Below.alloc ?_ ?side _; case side => (first | omega | (with_reducible exact Below.size (by assumption)) | (simp; done) | (simp; omega))) | (with_reducible refine Below.setCell ?_ ?side _; case side => (first | omega | (with_reducible exact Below.size (by assumption)) | (simp; done) | (simp; omega))) | with_reducible refine Below.drew ?_ | with_reducible refine below_drewN ?_ _ | (with_reducible refine below_step (by assumption) ?side ?_; case side => (first | omega | (with_reducible exact Below.size (by assumption)) | (simp; done) | (simp; omega))))⟩
    · cases h3 : (ba == 0) <;> cases h4 : (sm == 0)
      all_goals
        go_enter Try.func52, Try.ntmps52
        go_wp2_with (go_at_call 29; refine (Within2_c _ _ _ _).mono ?_; rintro e w' ⟨rfl, rfl⟩)
        all_goals
          go_ret
          exact ⟨ret_bool (by first | rfl | simp [*]), by (repeat first | with_reducible assumption | with_reducible exact Below.refl _ _ | (with_reducible refine Below.alloc ?_ ?side _; case side => (first | omega | (with_reducible exact Below.size (by assumption)) | (simp; done) | (simp; omega))) | (with_reducible refine Below.setCell ?_ ?side _; case side => (first | omega | (with_reducible exact Below.size (by assumption)) | (simp; done) | (simp; omega))) | with_reducible refine Below.drew ?_ | with_reducible refine below_drewN ?_ _ | (with_reducible refine below_step (by assumption) ?side ?_; case side => (first | omega | (with_reducible exact Below.size (by assumption)) | (simp; done) | (simp; omega))))⟩
  · go_enter Try.func52, Try.ntmps52
    go_wp2_with (go_at_call 29; refine (Within2_c _ _ _ _).mono ?_; rintro e w' ⟨rfl, rfl⟩)
    all_goals
      go_ret
      exact ⟨ret_bool (by first | rfl | simp [*]), by (repeat first | with_reducible assumption | with_reducible exact Below.refl _ _ | (with_reducible refine Below.alloc ?_ ?side _; case side => (first | omega | (with_reducible exact Below.size (by assumption)) | (simp; done) | (simp; omega))) | (with_reducible refine Below.setCell ?_ ?side _; case side => (first | omega | (with_reducible exact Below.size (by assumption)) | (simp; done) | (simp; omega))) | with_reducible refine Below.drew ?_ | with_reducible refine below_drewN ?_ _ | (with_reducible refine below_step (by assumption) ?side ?_; case side => (first | omega | (with_reducible exact Below.size (by assumption)) | (simp; done) | (simp; omega))))⟩
theorem intE2 : ElemT Try.prog 36 3 1 8 := by
  obtain ⟨i0, hi0, hz0, hz1, hz2⟩ := info_parts (P := Try.prog) (show (Try.prog.info? 3).map (fun i => (i.zero, i.size, i.bytes)) = some (some (.int .i64 0), 1, 8) by kernel_rfl)
  exact ⟨Try.underlying36, ⟨i0, _, hi0, hz0, hz1, hz2, rfl⟩, by omega, by omega⟩

end Go.Proofs.Ytdhlnlmhdacblaa
