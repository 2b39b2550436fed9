/- Plan, Fewest, Must and Spared of repairs (layer 7). -/
import Derived.Test.YtglpgcgidkdkiaaQd14
namespace Go.Proofs.Ytglpgcgidkdkiaa
open Go.RowKit
open Go.Sort (grow)
set_option linter.unusedVariables false
set_option linter.unusedSimpArgs false

theorem UsAt.get {w : World} {A : Option Addr} {n : Nat} {xs : List Nat} (h : UsAt w A n xs) {k : Nat} (hk : k < n) : ∃ b off, A = some ⟨b, off, none⟩ ∧ b < w.heap.size ∧ w.cell? ⟨b, off + k, none⟩ = some (.int .u64 ((xs.getD k 0 : Nat) : Int)) := by
  obtain ⟨b, off, e, hb, hc⟩ := h.2 (by omega)
  exact ⟨b, off, e, hb, by simpa using hc k hk 0 _ rfl⟩
theorem UsAt.later {w w' : World} {A : Option Addr} {n : Nat} {xs : List Nat} (h : UsAt w A n xs) (hb : Below w.heap.size w w') : UsAt w' A n xs := ⟨h.1, h.2.later hb⟩
theorem ints_none (w : World) : IntsAt w none 0 (ints []) := ⟨rfl, fun h => absurd h (by omega)⟩
theorem keep2 {wr w' : World} {p0 p1 : Addr} {v0 v1 : Value} (hb : Below wr.heap.size wr w') (h0 : wr.cell? p0 = some v0) (h1 : wr.cell? p1 = some v1)
    (l0 : p0.block < wr.heap.size) (l1 : p1.block < wr.heap.size) : w'.cell? p0 = some v0 ∧ w'.cell? p1 = some v1 :=
  ⟨(hb.cell l0).trans h0, (hb.cell l1).trans h1⟩
/-- what is handed back: a list of links, an error -/
def LiRet (L : List Nat) (z : Int) (w : World) (e : Ending) (w' : World) : Prop :=
  ∃ A c, e = .returned (.tuple #[.slice A L.length c, .int .i64 z]) ∧ IntsAt w' A L.length (ints L) ∧ Below w.heap.size w w'
set_option maxRecDepth 100000 in
set_option maxHeartbeats 1600000 in
theorem Plan_c (A : Option Addr) (n c : Nat) (q : Cb) (ls : List Sp) (w : World) (hn : n ≤ 40) (hq : CbOk q) (HL : SpsAt w A n ls) :
    Calls Try.prog 19 #[.agg #[.slice A n c, .int .i64 q.need, .int .i64 q.gap, .int .i64 q.doubt, .int .i64 q.joins, .int .i64 q.least]] w (LiRet (plC n ls q) (erS_q7 n ls q) w) := by
  have HLI := Lib.hid HL
  clear HL
  rcases sh_cases n ls q with ⟨z, hz, e1, e2, hr⟩ | ⟨hck, e1, y, r, hL, e2, hy, hr⟩
  · rw [e1, e2]
    have HR := Lib.hid hr
    have hzB : (z != 0) = true := by simpa using hz
    clear hr e1 e2
    go_enter Try.func19, Try.ntmps19
    go_wp2_with fail
    refine (shortest_c A n c q ls _ hn hq (HLI.out.later (by (repeat first | with_reducible assumption | with_reducible exact Below.refl _ _ | (with_reducible refine Below.alloc ?_ ?side _; case side => (first | omega | (with_reducible exact Below.size (by assumption)) | (simp; done) | (simp; omega))) | (with_reducible refine Below.setCell ?_ ?side _; case side => (first | omega | (with_reducible exact Below.size (by assumption)) | (simp; done) | (simp; omega))) | with_reducible refine Below.drew ?_ | with_reducible refine below_drewN ?_ _ | (with_reducible refine below_step (by assumption) ?side ?_; case side => (first | omega | (with_reducible exact Below.size (by assumption)) | (simp; done) | (simp; omega))))))).mono ?_
    rintro e w1 ⟨h, hb1⟩
    rw [HR.out] at h
    subst h
    go_wp2_with fail
    exact bodyPost_ret (v := .tuple #[.slice none 0 0, .int .i64 z]) (by simp [results, Try.results19, go_sem]) rfl ⟨none, 0, rfl, ints_none _, by (repeat first | with_reducible assumption | with_reducible exact Below.refl _ _ | (with_reducible refine Below.alloc ?_ ?side _; case side => (first | omega | (with_reducible exact Below.size (by assumption)) | (simp; done) | (simp; omega))) | (with_reducible refine Below.setCell ?_ ?side _; case side => (first | omega | (with_reducible exact Below.size (by assumption)) | (simp; done) | (simp; omega))) | with_reducible refine Below.drew ?_ | with_reducible refine below_drewN ?_ _ | (with_reducible refine below_step (by assumption) ?side ?_; case side => (first | omega | (with_reducible exact Below.size (by assumption)) | (simp; done) | (simp; omega))))⟩
  · rw [e1, e2]
    have HR := Lib.hid hr
    have hn12 := ck_len hck
    have hp12 : (2 : Nat) ^ n ≤ 4096 := by
      have : 2 ^ n ≤ 2 ^ 12 := Nat.pow_le_pow_right (by omega) hn12
      omega
    obtain ⟨m, hm⟩ : ∃ m, (shL q ls n).length = m := ⟨_, rfl⟩
    have hm0 : 0 < m := by rw [← hm, hL]; simp
    have hy0 : (shL q ls n).getD 0 0 = y := by rw [hL]; rfl
    rw [hm] at HR
    have hlc : ∀ W, Calls Try.prog 46 #[.int .u64 y, .int .i64 n, .bool true] W fun e W' => ∃ A c, e = .returned (.slice A (memN y n).length c) ∧ IntsAt W' A (memN y n).length (ints (memN y n)) ∧ Below W.heap.size W W' := fun W => by
      have := list_c y n true W (by omega) hn
      rwa [selN_true] at this
    replace hlc := Lib.hid hlc
    have HY0 := Lib.hid hy0
    clear hr e1 e2 hck hp12 hm hL hy hy0
    go_enter Try.func19, Try.ntmps19
    go_wp2_with fail
    refine (shortest_c A n c q ls _ hn hq (HLI.out.later (by (repeat first | with_reducible assumption | with_reducible exact Below.refl _ _ | (with_reducible refine Below.alloc ?_ ?side _; case side => (first | omega | (with_reducible exact Below.size (by assumption)) | (simp; done) | (simp; omega))) | (with_reducible refine Below.setCell ?_ ?side _; case side => (first | omega | (with_reducible exact Below.size (by assumption)) | (simp; done) | (simp; omega))) | with_reducible refine Below.drew ?_ | with_reducible refine below_drewN ?_ _ | (with_reducible refine below_step (by assumption) ?side ?_; case side => (first | omega | (with_reducible exact Below.size (by assumption)) | (simp; done) | (simp; omega))))))).mono ?_
    rintro e w1 ⟨h, hb1⟩
    rw [HR.out] at h
    obtain ⟨B, cb, rfl, hu⟩ := h
    obtain ⟨bb, ob, rfl, hbb, x0⟩ := hu.get hm0
    rw [HY0.out] at x0
    have d0 := fun i => (hb1.cell (p := ⟨w.heap.size, i, none⟩) (by simp)).trans ((al1_0 rfl).2.1 i)
    have z1 := hb1.size
    simp only [World.size_alloc] at z1
    have n1 : w.heap.size < w1.heap.size := by omega
    have B1 : Below w.heap.size w w1 := by (repeat first | with_reducible assumption | with_reducible exact Below.refl _ _ | (with_reducible refine Below.alloc ?_ ?side _; case side => (first | omega | (with_reducible exact Below.size (by assumption)) | (simp; done) | (simp; omega))) | (with_reducible refine Below.setCell ?_ ?side _; case side => (first | omega | (with_reducible exact Below.size (by assumption)) | (simp; done) | (simp; omega))) | with_reducible refine Below.drew ?_ | with_reducible refine below_drewN ?_ _ | (with_reducible refine below_step (by assumption) ?side ?_; case side => (first | omega | (with_reducible exact Below.size (by assumption)) | (simp; done) | (simp; omega))))
    have hmI : (0 : Int) < (m : Int) := by omega
    clear hu hb1
    go_wp2_with fail
    go_region_held3 (fun w' => w'.cell? ⟨w.heap.size, 0, none⟩ = some (.slice A n c) ∧ w'.cell? ⟨bb, ob, none⟩ = some (.int .u64 (y : Int)))
      (exact keep2 (wr := w1) (by (repeat first | with_reducible assumption | with_reducible exact Below.refl _ _ | (with_reducible refine Below.alloc ?_ ?side _; case side => (first | omega | (with_reducible exact Below.size (by assumption)) | (simp; done) | (simp; omega))) | (with_reducible refine Below.setCell ?_ ?side _; case side => (first | omega | (with_reducible exact Below.size (by assumption)) | (simp; done) | (simp; omega))) | with_reducible refine Below.drew ?_ | with_reducible refine below_drewN ?_ _ | (with_reducible refine below_step (by assumption) ?side ?_; case side => (first | omega | (with_reducible exact Below.size (by assumption)) | (simp; done) | (simp; omega))))) (d0 0) x0 n1 hbb)
      (first
        | (go_at_call 46; refine (hlc.out _).mono ?_; (rintro e w2 ⟨G2, c2, rfl, hi2, hb2⟩); have HI2 := Lib.hid hi2; have z2 := hb2.size; (try simp only [World.size_drew] at z2); clear hi2))
    all_goals
      go_wp2_with fail
      refine bodyPost_ret (v := .tuple #[.slice G2 (memN y n).length c2, .int .i64 0]) (by simp [results, Try.results19, go_sem]) rfl ⟨G2, c2, rfl, HI2.out, by (repeat first | with_reducible assumption | with_reducible exact Below.refl _ _ | (with_reducible refine Below.alloc ?_ ?side _; case side => (first | omega | (with_reducible exact Below.size (by assumption)) | (simp; done) | (simp; omega))) | (with_reducible refine Below.setCell ?_ ?side _; case side => (first | omega | (with_reducible exact Below.size (by assumption)) | (simp; done) | (simp; omega))) | with_reducible refine Below.drew ?_ | with_reducible refine below_drewN ?_ _ | (with_reducible refine below_step (by assumption) ?side ?_; case side => (first | omega | (with_reducible exact Below.size (by assumption)) | (simp; done) | (simp; omega))))⟩
set_option maxHeartbeats 400000 in
theorem fewest_c_q7 (A : Option Addr) (n c : Nat) (q : Cb) (ls : List Sp) (w : World) (hn : n ≤ 40) (hq : CbOk q) (HL : SpsAt w A n ls) :
    Calls Try.prog 40 #[.agg #[.slice A n c, .int .i64 q.need, .int .i64 q.gap, .int .i64 q.doubt, .int .i64 q.joins, .int .i64 q.least]] w fun e w' => e = .returned (.tuple #[.int .i64 ((plC n ls q).length : Nat), .int .i64 (erS_q7 n ls q)]) ∧ Below w.heap.size w w' := by
  have HLI := Lib.hid HL
  have hpc : ∀ W, Below w.heap.size w W → Calls Try.prog 19 #[.agg #[.slice A n c, .int .i64 q.need, .int .i64 q.gap, .int .i64 q.doubt, .int .i64 q.joins, .int .i64 q.least]] W (LiRet (plC n ls q) (erS_q7 n ls q) W) := fun W hW => Plan_c A n c q ls W hn hq (HLI.out.later hW)
  obtain ⟨L, hL⟩ : ∃ L, plC n ls q = L := ⟨_, rfl⟩
  obtain ⟨z, hz⟩ : ∃ z, erS_q7 n ls q = z := ⟨_, rfl⟩
  rw [hL, hz] at hpc ⊢
  have HPC := Lib.hid hpc
  clear HL hL hz hpc
  go_enter Try.func40, Try.ntmps40
  go_wp2_with fail
  refine (HPC.out _ (by (repeat first | with_reducible assumption | with_reducible exact Below.refl _ _ | (with_reducible refine Below.alloc ?_ ?side _; case side => (first | omega | (with_reducible exact Below.size (by assumption)) | (simp; done) | (simp; omega))) | (with_reducible refine Below.setCell ?_ ?side _; case side => (first | omega | (with_reducible exact Below.size (by assumption)) | (simp; done) | (simp; omega))) | with_reducible refine Below.drew ?_ | with_reducible refine below_drewN ?_ _ | (with_reducible refine below_step (by assumption) ?side ?_; case side => (first | omega | (with_reducible exact Below.size (by assumption)) | (simp; done) | (simp; omega)))))).mono ?_
  rintro e w1 ⟨G, cg, rfl, -, hb1⟩
  go_wp2_with fail
  exact bodyPost_ret (v := .tuple #[.int .i64 (L.length : Nat), .int .i64 z]) (by simp [results, Try.results40, go_sem]) rfl ⟨rfl, by (repeat first | with_reducible assumption | with_reducible exact Below.refl _ _ | (with_reducible refine Below.alloc ?_ ?side _; case side => (first | omega | (with_reducible exact Below.size (by assumption)) | (simp; done) | (simp; omega))) | (with_reducible refine Below.setCell ?_ ?side _; case side => (first | omega | (with_reducible exact Below.size (by assumption)) | (simp; done) | (simp; omega))) | with_reducible refine Below.drew ?_ | with_reducible refine below_drewN ?_ _ | (with_reducible refine below_step (by assumption) ?side ?_; case side => (first | omega | (with_reducible exact Below.size (by assumption)) | (simp; done) | (simp; omega))))⟩

end Go.Proofs.Ytglpgcgidkdkiaa
