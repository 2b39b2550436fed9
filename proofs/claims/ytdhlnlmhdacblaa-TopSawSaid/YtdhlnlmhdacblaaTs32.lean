/- A net with one pipe's bounds changed (layer 11); The ends of what a pipe can carry (layer 11), by sort.Search over can. -/
import Derived.Test.YtdhlnlmhdacblaaTs31
import Derived.Test.YtdhlnlmhdacblaaTs02
import Derived.Test.YtdhlnlmhdacblaaTs30
namespace Go.Proofs.Ytdhlnlmhdacblaa
open Go.RowKit
open Go.Sort (grow)
set_option linter.unusedVariables false
set_option linter.unusedSimpArgs false

def encP_q11 (p : Pp) : List Value := [.int .i64 p.fr, .int .i64 p.to, .int .i64 p.lo, .int .i64 p.hi]
theorem encP_len_q11 (p : Pp) : (encP_q11 p).length = 4 := rfl
theorem pps_iff {w : World} {A : Option Addr} {n : Nat} {xs : List Pp} : PpsAt w A n xs ↔ SlAt encP_q11 4 ⟨0, 0, 0, 0⟩ w A n xs := Iff.rfl

/-- pipe number i carries from lo to hi -/
def withPp (pp : List Pp) (i : Nat) (lo hi : Int) : List Pp := pp.set i { ppAt pp i with lo := lo, hi := hi }
theorem withPp_at (pp : List Pp) (i k : Nat) (lo hi : Int) (hi' : i < pp.length) : ppAt (withPp pp i lo hi) k = if k = i then { ppAt pp i with lo := lo, hi := hi } else ppAt pp k := by
  unfold withPp ppAt
  rw [List.getD_eq_getElem?_getD, List.getElem?_set]
  by_cases h : i = k
  · subst h; simp [hi']
  · rw [if_neg h, if_neg (fun e => h e.symm), List.getD_eq_getElem?_getD]

theorem pps_with {w : World} {g n i : Nat} {pp : List Pp} {lo hi : Int} {u v : Value} (hs : PpsAt w (some ⟨g, 0, none⟩) n pp) (hi' : i < n)
    (c2 : w.cell? ⟨g, i * 4 + 2, none⟩ = some u) (c3 : w.cell? ⟨g, i * 4 + 2 + 1, none⟩ = some v) :
    PpsAt ((w.setCell ⟨g, i * 4 + 2, none⟩ (.int .i64 lo)).setCell ⟨g, i * 4 + 2 + 1, none⟩ (.int .i64 hi)) (some ⟨g, 0, none⟩) n (withPp pp i lo hi) := by
  have hl : (withPp pp i lo hi).length = n := by simp [withPp, hs.1]
  refine ⟨hl, fun hn => ?_⟩
  obtain ⟨b, off, e, hb, hc⟩ := hs.2 hn
  simp only [Option.some.injEq, Addr.mk.injEq, and_true] at e
  obtain ⟨rfl, rfl⟩ := e
  refine ⟨g, 0, rfl, by simpa using hb, fun k hk j x hx => ?_⟩
  have hj : j < 4 := (List.getElem?_eq_some_iff.1 hx).1
  have old := fun x h => hc k hk j x h
  dsimp only at hx old
  have d3 : (w.setCell ⟨g, i * 4 + 2, none⟩ (.int .i64 lo)).cell? ⟨g, i * 4 + 2 + 1, none⟩ = some v := by
    rw [World.cell?_setCell_other _ _ _ _ (by simp)]; exact c3
  rw [withPp_at pp i k lo hi (by rw [hs.1]; exact hi')] at hx
  by_cases h3 : k = i ∧ j = 3
  · obtain ⟨rfl, rfl⟩ := h3
    rw [if_pos rfl] at hx
    cases hx
    rw [show (⟨g, 0 + k * 4 + 3, none⟩ : Addr) = ⟨g, k * 4 + 2 + 1, none⟩ by simp]
    exact World.cell?_setCell_same _ _ _ d3
  rw [World.cell?_setCell_other _ _ _ _ (by intro e; simp at e <;> omega)]
  by_cases h2 : k = i ∧ j = 2
  · obtain ⟨rfl, rfl⟩ := h2
    rw [if_pos rfl] at hx
    cases hx
    rw [show (⟨g, 0 + k * 4 + 2, none⟩ : Addr) = ⟨g, k * 4 + 2, none⟩ by simp]
    exact World.cell?_setCell_same _ _ _ c2
  rw [World.cell?_setCell_other _ _ _ _ (by intro e; simp at e <;> omega)]
  refine old x ?_
  by_cases hk' : k = i
  · subst hk'
    rw [if_pos rfl] at hx
    have : j = 0 ∨ j = 1 := by omega
    rcases this with rfl | rfl <;> exact hx
  · rw [if_neg hk'] at hx; exact hx
theorem encP_one_q11 (x : Pp) : ∀ u ∈ encP_q11 x, u.oneCell' = true := by
  intro u hu; simp only [encP_q11, List.mem_cons, List.not_mem_nil, or_false] at hu; rcases hu with rfl | rfl | rfl | rfl <;> rfl
theorem pp_info : (Try.prog.info? 117).map (fun i => (i.zero, i.size, i.bytes)) = some (some (.agg #[.int .i64 0, .int .i64 0, .int .i64 0, .int .i64 0]), 4, 32) := by kernel_rfl
theorem ppE : ElemT Try.prog 94 117 4 32 := by
  obtain ⟨i0, hi0, hz0, hz1, hz2⟩ := info_parts pp_info
  exact ⟨Try.underlying94, ⟨i0, _, hi0, hz0, hz1, hz2, rfl⟩, by omega, by omega⟩

set_option maxHeartbeats 400000 in
theorem with_c (A : Option Addr) (n c i : Nat) (lo hi : Int) (pp : List Pp) (w : World) (hn : n ≤ 40) (hin : i < n) (HP : PpsAt w A n pp) :
    Calls Try.prog 46 #[.slice A n c, .int .i64 i, .agg #[.int .i64 lo, .int .i64 hi]] w
      fun e w' => ∃ A' c', e = .returned (.slice A' n c') ∧ PpsAt w' A' n (withPp pp i lo hi) ∧ Below w.heap.size w w' := by
  have HR := Lib.hid HP
  have HOW := Lib.hid (own_empty (w := w.alloc (.cells #[.int .i64 lo, .int .i64 hi] 29)) (base := w.heap.size) (e := 117) (size := 4) (g := w.heap.size + 1) (by simp) (by simp))
  have hl := HP.1
  clear HP
  go_enter Try.func46, Try.ntmps46
  go_wp2_with (at_builtin; go_must (refine wpList_append_T _ rfl (.tmp 8) (.tmp 9) _ rfl w.heap.size _ 4 32 ppE encP_len_q11 encP_one_q11 _ (some (w.heap.size + 1)) 0 [] rfl rfl HOW.out A n c pp rfl (pps_iff.1 (HR.out.later (by (repeat first | with_reducible assumption | with_reducible exact Below.refl _ _ | refine below_drewN ?_ _ | refine Below.drew ?_ | refine Below.alloc ?_ (by first | omega | (with_reducible exact Below.size (by assumption)) | (simp; done) | (simp; omega)) _ | refine Below.setCell ?_ (by first | omega | (with_reducible exact Below.size (by assumption)) | (simp; done) | (simp; omega)) _ | refine below_step (by assumption) (by first | omega | (with_reducible exact Below.size (by assumption)) | (simp; done) | (simp; omega)) ?_)))) (by omega) (by simp; omega) ?_; intro v1 w1 hown1 hg1 hat; rw [Nat.zero_add, List.nil_append] at hown1; obtain ⟨g, cap, rfl, hbg, hgl⟩ := hown1.form (by omega); have HO1 := Lib.hid hown1; have hb1 : Below w.heap.size w w1 := (Below.grown (by (repeat first | with_reducible assumption | with_reducible exact Below.refl _ _ | refine below_drewN ?_ _ | refine Below.drew ?_ | refine Below.alloc ?_ (by first | omega | (with_reducible exact Below.size (by assumption)) | (simp; done) | (simp; omega)) _ | refine Below.setCell ?_ (by first | omega | (with_reducible exact Below.size (by assumption)) | (simp; done) | (simp; omega)) _ | refine below_step (by assumption) (by first | omega | (with_reducible exact Below.size (by assumption)) | (simp; done) | (simp; omega)) ?_)) hg1 (by simp; omega) (fun k hk => by cases hk; exact Nat.le_succ _)); have qb : ∀ i, w1.cell? ⟨w.heap.size, i, none⟩ = #[Value.int .i64 lo, .int .i64 hi][i]? := (fun i => (World.cell?_of_block (a := ⟨w.heap.size, i, none⟩) (hg1.block w.heap.size (by first | omega | (simp; done) | (simp; omega)) (by simp))).trans ((al2_0 rfl).2.1 i)); have k2 := (hown1.cellAt (i * 4 + 2) (by omega)).trans (flat_get (d := ⟨0, 0, 0, 0⟩) encP_len_q11 pp i 2 (by omega) (by omega)); have k3 := (hown1.cellAt (i * 4 + 3) (by omega)).trans (flat_get (d := ⟨0, 0, 0, 0⟩) encP_len_q11 pp i 3 (by omega) (by omega)); have fz := fun j => hown1.frozenAt j; clear hown1 hg1 hat; simp only [encP_q11, List.getElem?_cons_succ, List.getElem?_cons_zero] at k2 k3))
  go_ret
  obtain ⟨A1, c1, e1, -, hs1⟩ := SlAt.of_own (d := ⟨0, 0, 0, 0⟩) encP_len_q11 HO1.out hl
  cases e1
  exact ⟨_, _, rfl, pps_with (pps_iff.2 hs1) hin k2 k3, by (repeat first | with_reducible assumption | with_reducible exact Below.refl _ _ | refine below_drewN ?_ _ | refine Below.drew ?_ | refine Below.alloc ?_ (by first | omega | (with_reducible exact Below.size (by assumption)) | (simp; done) | (simp; omega)) _ | refine Below.setCell ?_ (by first | omega | (with_reducible exact Below.size (by assumption)) | (simp; done) | (simp; omega)) _ | refine below_step (by assumption) (by first | omega | (with_reducible exact Below.size (by assumption)) | (simp; done) | (simp; omega)) ?_)⟩

end Go.Proofs.Ytdhlnlmhdacblaa

namespace Go.Proofs.Ytdhlnlmhdacblaa
open Go.RowKit
open Go.Sort (grow)
set_option linter.unusedVariables false
set_option linter.unusedSimpArgs false

theorem outTo_le {pp qq : List Pp} {S : Nat} (hf : ∀ k, (ppAt pp k).fr = (ppAt qq k).fr) (ht : ∀ k, (ppAt pp k).to = (ppAt qq k).to) (hl : ∀ k, (ppAt qq k).lo ≤ (ppAt pp k).lo) (hh : ∀ k, (ppAt pp k).hi ≤ (ppAt qq k).hi) (n : Nat) :
    outTo qq S n ≤ outTo pp S n ∧ inTo pp S n ≤ inTo qq S n := by
  induction n with
  | zero => simp [outTo, inTo]
  | succ k ih =>
    have h1 := hl k
    have h2 := hh k
    simp only [outTo, inTo, hf k, ht k]
    cases S.testBit (ppAt qq k).fr.toNat <;> cases S.testBit (ppAt qq k).to.toNat <;> simp <;> omega
theorem canL_mono {pp qq : List Pp} {n : Nat} (hf : ∀ k, (ppAt pp k).fr = (ppAt qq k).fr) (ht : ∀ k, (ppAt pp k).to = (ppAt qq k).to) (hl : ∀ k, (ppAt qq k).lo ≤ (ppAt pp k).lo) (hh : ∀ k, (ppAt pp k).hi ≤ (ppAt qq k).hi)
    (h : canL n pp = true) : canL n qq = true := by
  rw [canL, allN_iff] at h ⊢
  intro S hS
  have := outTo_le (S := S) hf ht hl hh n
  have := h S hS
  simp at this ⊢
  omega
theorem withPp_ok {pp : List Pp} {i : Nat} {lo hi : Int} (h : ∀ k, okPp (ppAt pp k)) (hi' : i < pp.length) (h1 : -100000 ≤ lo) (h2 : lo ≤ 100000) (h3 : -100000 ≤ hi) (h4 : hi ≤ 100000) : ∀ k, okPp (ppAt (withPp pp i lo hi) k) := by
  intro k
  rw [withPp_at pp i k lo hi hi']
  split
  · obtain ⟨a, b, c, d, -⟩ := h i
    exact ⟨a, b, c, d, h1, h2, h3, h4⟩
  · exact h k
theorem can_with {pp : List Pp} {n i : Nat} {lo hi lo' hi' : Int} (hin : i < pp.length) (h1 : lo' ≤ lo) (h2 : hi ≤ hi') (h : canL n (withPp pp i lo hi) = true) : canL n (withPp pp i lo' hi') = true := by
  refine canL_mono (fun k => ?_) (fun k => ?_) (fun k => ?_) (fun k => ?_) h <;> rw [withPp_at _ _ _ _ _ hin, withPp_at _ _ _ _ _ hin] <;> split <;> simp <;> omega

/-- the least and the greatest that pipe i can carry, as the program looks for them -/
def lowP (n : Nat) (pp : List Pp) (i : Nat) : Nat := leastN ((ppAt pp i).hi - (ppAt pp i).lo).toNat fun k => canL n (withPp pp i (ppAt pp i).lo ((ppAt pp i).lo + k))
def highP (n : Nat) (pp : List Pp) (i : Nat) : Nat := leastN ((ppAt pp i).hi - (ppAt pp i).lo).toNat fun k => canL n (withPp pp i ((ppAt pp i).hi - k) (ppAt pp i).hi)

set_option maxHeartbeats 400000 in
theorem ends1_c (A : Option Addr) (n c i k b1 b2 b3 : Nat) (lo hi : Int) (pp : List Pp) (w : World) (hn : n ≤ 40) (hin : i < n) (HP : PpsAt w A n pp) (hok : ∀ k, okPp (ppAt pp k))
    (h1 : -20000 ≤ lo) (h2 : lo ≤ 20000) (h3 : -20000 ≤ hi) (h4 : hi ≤ 20000) (hk : k ≤ 60000)
    (q1 : w.cell? ⟨b1, 0, none⟩ = some (.slice A n c)) (q2 : w.cell? ⟨b2, 0, none⟩ = some (.int .i64 i)) (q3 : w.cell? ⟨b3, 0, none⟩ = some (.int .i64 lo)) (q4 : w.cell? ⟨b3, 1, none⟩ = some (.int .i64 hi)) :
    Calls Try.prog 83 #[.int .i64 k, .pointer (some ⟨b1, 0, none⟩), .pointer (some ⟨b2, 0, none⟩), .pointer (some ⟨b3, 0, none⟩)] w
      fun e w' => e = .returned (.bool (canL n (withPp pp i lo (lo + k)))) ∧ Below w.heap.size w w' := by
  have HPI := Lib.hid HP
  have HO := Lib.hid hok
  clear HP hok
  go_enter Try.func83, Try.ntmps83
  go_wp2_with fail
  refine (with_c A n c i _ _ pp _ hn hin HPI.out).mono ?_
  rintro e w1 ⟨A1, c1, rfl, hp1, hb1⟩
  go_wp2_with fail
  refine (can_c A1 n c1 _ _ hn hp1 (withPp_ok HO.out (by rw [HPI.out.1]; exact hin) (by omega) (by omega) (by omega) (by omega))).mono ?_
  have zb1 := hb1.size
  (rintro e w2 ⟨rfl, hb2⟩; obtain ⟨hc2, hf2⟩ := bcell hb2; have zs2 := hb2.size; (try simp at zs2))
  go_wp2
  go_ret
  exact ⟨rfl, by (repeat first | with_reducible assumption | with_reducible exact Below.refl _ _ | refine below_drewN ?_ _ | refine Below.drew ?_ | refine Below.alloc ?_ (by first | omega | (with_reducible exact Below.size (by assumption)) | (simp; done) | (simp; omega)) _ | refine Below.setCell ?_ (by first | omega | (with_reducible exact Below.size (by assumption)) | (simp; done) | (simp; omega)) _ | refine below_step (by assumption) (by first | omega | (with_reducible exact Below.size (by assumption)) | (simp; done) | (simp; omega)) ?_)⟩
set_option maxHeartbeats 400000 in
theorem ends2_c (A : Option Addr) (n c i k b1 b2 b3 : Nat) (lo hi : Int) (pp : List Pp) (w : World) (hn : n ≤ 40) (hin : i < n) (HP : PpsAt w A n pp) (hok : ∀ k, okPp (ppAt pp k))
    (h1 : -20000 ≤ lo) (h2 : lo ≤ 20000) (h3 : -20000 ≤ hi) (h4 : hi ≤ 20000) (hk : k ≤ 60000)
    (q1 : w.cell? ⟨b1, 0, none⟩ = some (.slice A n c)) (q2 : w.cell? ⟨b2, 0, none⟩ = some (.int .i64 i)) (q3 : w.cell? ⟨b3, 0, none⟩ = some (.int .i64 lo)) (q4 : w.cell? ⟨b3, 1, none⟩ = some (.int .i64 hi)) :
    Calls Try.prog 84 #[.int .i64 k, .pointer (some ⟨b1, 0, none⟩), .pointer (some ⟨b2, 0, none⟩), .pointer (some ⟨b3, 0, none⟩)] w
      fun e w' => e = .returned (.bool (canL n (withPp pp i (hi - k) hi))) ∧ Below w.heap.size w w' := by
  have HPI := Lib.hid HP
  have HO := Lib.hid hok
  clear HP hok
  go_enter Try.func84, Try.ntmps84
  go_wp2_with fail
  refine (with_c A n c i _ _ pp _ hn hin HPI.out).mono ?_
  rintro e w1 ⟨A1, c1, rfl, hp1, hb1⟩
  go_wp2_with fail
  refine (can_c A1 n c1 _ _ hn hp1 (withPp_ok HO.out (by rw [HPI.out.1]; exact hin) (by omega) (by omega) (by omega) (by omega))).mono ?_
  have zb1 := hb1.size
  (rintro e w2 ⟨rfl, hb2⟩; obtain ⟨hc2, hf2⟩ := bcell hb2; have zs2 := hb2.size; (try simp at zs2))
  go_wp2
  go_ret
  exact ⟨rfl, by (repeat first | with_reducible assumption | with_reducible exact Below.refl _ _ | refine below_drewN ?_ _ | refine Below.drew ?_ | refine Below.alloc ?_ (by first | omega | (with_reducible exact Below.size (by assumption)) | (simp; done) | (simp; omega)) _ | refine Below.setCell ?_ (by first | omega | (with_reducible exact Below.size (by assumption)) | (simp; done) | (simp; omega)) _ | refine below_step (by assumption) (by first | omega | (with_reducible exact Below.size (by assumption)) | (simp; done) | (simp; omega)) ?_)⟩

def endsP (n : Nat) (pp : List Pp) (i : Nat) : Sp := ⟨(ppAt pp i).lo + lowP n pp i, (ppAt pp i).hi - highP n pp i⟩

set_option maxRecDepth 100000 in
set_option maxHeartbeats 800000 in
theorem ends_c (A : Option Addr) (n c i : Nat) (pp : List Pp) (w : World) (hn : n ≤ 40) (hin : i < n) (HP : PpsAt w A n pp) (hok : ∀ k, okPp (ppAt pp k))
    (h1 : -20000 ≤ (ppAt pp i).lo) (h2 : (ppAt pp i).lo ≤ (ppAt pp i).hi) (h4 : (ppAt pp i).hi ≤ 20000) :
    Calls Try.prog 67 #[.slice A n c, .int .i64 i] w
      fun e w' => e = .returned (.agg #[.int .i64 (endsP n pp i).lo, .int .i64 (endsP n pp i).hi]) ∧ Below w.heap.size w w' := by
  obtain ⟨lo, hlo⟩ : ∃ lo, (ppAt pp i).lo = lo := ⟨_, rfl⟩
  obtain ⟨d, hd⟩ : ∃ d : Nat, (ppAt pp i).hi = lo + d := ⟨((ppAt pp i).hi - lo).toNat, by omega⟩
  have e1 : lowP n pp i = leastN d fun k => canL n (withPp pp i lo (lo + k)) := by
    have : ((ppAt pp i).hi - (ppAt pp i).lo).toNat = d := by omega
    rw [lowP, this, hlo]
  have e2 : highP n pp i = leastN d fun k => canL n (withPp pp i (lo + d - k) (lo + d)) := by
    have : ((ppAt pp i).hi - (ppAt pp i).lo).toNat = d := by omega
    rw [highP, this, hd]
  have e3 : endsP n pp i = ⟨lo + lowP n pp i, lo + d - highP n pp i⟩ := by rw [endsP, hlo, hd]
  rw [e3, e1, e2]
  have hil : i < pp.length := by rw [HP.1]; exact hin
  have L1 : leastN d (fun k => canL n (withPp pp i lo (lo + k))) ≤ d := leastN_le _ _
  have L2 : leastN d (fun k => canL n (withPp pp i (lo + d - k) (lo + d))) ≤ d := leastN_le _ _
  generalize HX1 : leastN d (fun k => canL n (withPp pp i lo (lo + k))) = x1 at *
  generalize HX2 : leastN d (fun k => canL n (withPp pp i (lo + d - k) (lo + d))) = x2 at *
  obtain ⟨bp, op, rfl, hbp, -, -, y2, y3⟩ := HP.get hin
  rw [hlo] at y2 h1 h2
  rw [hd] at y3 h4
  have HPI := Lib.hid HP
  have HO := Lib.hid hok
  have HX := Lib.hid (And.intro HX1 HX2)
  clear HP hok e1 e2 e3 hlo hd HX1 HX2
  have al3b := fun o1 o2 o3 => (((Below.refl w.heap.size w).alloc (Nat.le_refl _) o1).alloc (by simp) o2).alloc (by simp; omega) o3
  have Y2 := fun o1 o2 o3 => ((al3b o1 o2 o3).cell (p := ⟨bp, op + i * 4 + 2, none⟩) hbp).trans y2
  have Y3 := fun o1 o2 o3 => ((al3b o1 o2 o3).cell (p := ⟨bp, op + i * 4 + 3, none⟩) hbp).trans y3
  clear al3b y2 y3
  go_enter Try.func67, Try.ntmps67
  go_wp2
  go_name_world W hW
  obtain ⟨hB, hz⟩ := al4 hW
  obtain ⟨l_0, q_0, f_0⟩ := al4_0 hW
  obtain ⟨l_1, q_1, f_1⟩ := al4_1 hW
  obtain ⟨l_2, q_2, f_2⟩ := al4_2 hW
  obtain ⟨l_3, q_3, f_3⟩ := al4_3 hW
  have HZ := Lib.hid hz
  have zs := hB.size
  clear hW hz
  have en1 := enters_of Try.func83 (by kernel_rfl) rfl
  have en2 := enters_of Try.func84 (by kernel_rfl) rfl
  have HS1 : Hid (∀ w', Below W.heap.size W w' → Calls Try.prog 82 #[.int .i64 d, .func (.func 83) #[] #[.pointer (some ⟨w.heap.size, 0, none⟩), .pointer (some ⟨w.heap.size + 1, 0, none⟩), .pointer (some ⟨w.heap.size + 1 + 1 + 1, 0, none⟩)]] w'
      fun e w'' => e = .returned (.int .i64 x1) ∧ Below w'.heap.size w' w'') := fun w' hw => by
    rw [← HX.out.1]
    refine search_c d _ #[] _ _ w' (by omega) (fun a b hab _ h => can_with hil (by omega) (by omega) h) en1 (fun k hk w2 hb => ?_)
    have hw2 : Below W.heap.size W w2 := hw.trans (hb.mono hw.size)
    have := ends1_c _ n c i k w.heap.size (w.heap.size + 1) (w.heap.size + 1 + 1 + 1) lo (lo + d) pp w2 hn hin (HPI.out.later (hB.trans (hw2.mono zs))) HO.out (by omega) (by omega) (by omega) (by omega) (by omega)
      ((hw2.cell (p := ⟨w.heap.size, 0, none⟩) l_0).trans (q_0 0)) ((hw2.cell (p := ⟨w.heap.size + 1, 0, none⟩) l_1).trans (q_1 0)) ((hw2.cell (p := ⟨w.heap.size + 1 + 1 + 1, 0, none⟩) l_3).trans (q_3 0)) ((hw2.cell (p := ⟨w.heap.size + 1 + 1 + 1, 1, none⟩) l_3).trans (q_3 1))
    simpa using this
  have HS2 : Hid (∀ w', Below W.heap.size W w' → Calls Try.prog 82 #[.int .i64 d, .func (.func 84) #[] #[.pointer (some ⟨w.heap.size, 0, none⟩), .pointer (some ⟨w.heap.size + 1, 0, none⟩), .pointer (some ⟨w.heap.size + 1 + 1 + 1, 0, none⟩)]] w'
      fun e w'' => e = .returned (.int .i64 x2) ∧ Below w'.heap.size w' w'') := fun w' hw => by
    rw [← HX.out.2]
    refine search_c d _ #[] _ _ w' (by omega) (fun a b hab _ h => can_with hil (by omega) (by omega) h) en2 (fun k hk w2 hb => ?_)
    have hw2 : Below W.heap.size W w2 := hw.trans (hb.mono hw.size)
    have := ends2_c _ n c i k w.heap.size (w.heap.size + 1) (w.heap.size + 1 + 1 + 1) lo (lo + d) pp w2 hn hin (HPI.out.later (hB.trans (hw2.mono zs))) HO.out (by omega) (by omega) (by omega) (by omega) (by omega)
      ((hw2.cell (p := ⟨w.heap.size, 0, none⟩) l_0).trans (q_0 0)) ((hw2.cell (p := ⟨w.heap.size + 1, 0, none⟩) l_1).trans (q_1 0)) ((hw2.cell (p := ⟨w.heap.size + 1 + 1 + 1, 0, none⟩) l_3).trans (q_3 0)) ((hw2.cell (p := ⟨w.heap.size + 1 + 1 + 1, 1, none⟩) l_3).trans (q_3 1))
    simpa using this
  clear en1 en2 Y2 Y3
  have s1 : IntKind.i64.wrap (lo + (d : Int) - lo) = d := by rw [IntWalk.i64_in _ (by omega)]; omega
  have s2 : IntKind.i64.wrap (lo + (x1 : Int)) = lo + x1 := IntWalk.i64_in _ (by omega)
  have s3 : IntKind.i64.wrap (lo + (d : Int) - x2) = lo + d - x2 := IntWalk.i64_in _ (by omega)
  have SS := Lib.hid (And.intro s1 (And.intro s2 s3))
  have hcq := fun p : Regrown => (bcell (below_regrown W p.d p.os)).1
  refine wp_region_quiet_below (by kernel_rfl) (by kernel_rfl) ?_
  repeat (go_big_quiet_step (((go_at_call 82; exact Calls.regrown_of (HS1.out _ (below_regrown _ _ _))))))
  refine wpQuiet_nil ?_
  intro w1 hq
  obtain ⟨pq, hq⟩ := hq
  have hb1 : Below W.heap.size W w1 := by rw [hq]; exact below_regrown _ _ _
  clear hq hcq pq
  obtain ⟨hc1, hf1⟩ := bcell hb1
  have z1 := hb1.size
  clear s1 s2 s3
  have r0 := Nat.lt_of_lt_of_le l_0 z1
  have r1 := Nat.lt_of_lt_of_le l_1 z1
  have r2 := Nat.lt_of_lt_of_le l_2 z1
  have r3 := Nat.lt_of_lt_of_le l_3 z1
  go_wp2
  obtain ⟨s1, s2, s3⟩ := SS.out
  have hcq := fun p : Regrown => (bcell (below_regrown w1 p.d p.os)).1
  refine wp_region_quiet_below (by kernel_rfl) (by kernel_rfl) ?_
  repeat (go_big_quiet_step (((go_at_call 82; exact Calls.regrown_of (HS2.out _ (hb1.trans ((below_regrown _ _ _).mono z1)))))))
  refine wpQuiet_nil ?_
  intro w2 hq
  obtain ⟨pq, hq⟩ := hq
  have hb2 : Below w1.heap.size w1 w2 := by rw [hq]; exact below_regrown _ _ _
  clear hq hcq pq
  obtain ⟨hc2, hf2⟩ := bcell hb2
  have z2 := hb2.size
  clear s1 s2 s3
  have r0 := Nat.lt_of_lt_of_le r0 z2
  have r1 := Nat.lt_of_lt_of_le r1 z2
  have r2 := Nat.lt_of_lt_of_le r2 z2
  have r3 := Nat.lt_of_lt_of_le r3 z2
  go_wp2
  exact bodyPost_ret (v := .agg #[.int .i64 (lo + x1), .int .i64 (lo + d - x2)]) (by simp [results, Try.results67, go_sem, hc2, hc1, q_2, l_2, Nat.lt_of_lt_of_le l_2 z1]) rfl ⟨rfl, by (repeat first | with_reducible assumption | with_reducible exact Below.refl _ _ | refine below_drewN ?_ _ | refine Below.drew ?_ | refine Below.alloc ?_ (by first | omega | (with_reducible exact Below.size (by assumption)) | (simp; done) | (simp; omega)) _ | refine Below.setCell ?_ (by first | omega | (with_reducible exact Below.size (by assumption)) | (simp; done) | (simp; omega)) _ | refine below_step (by assumption) (by first | omega | (with_reducible exact Below.size (by assumption)) | (simp; done) | (simp; omega)) ?_)⟩

end Go.Proofs.Ytdhlnlmhdacblaa
