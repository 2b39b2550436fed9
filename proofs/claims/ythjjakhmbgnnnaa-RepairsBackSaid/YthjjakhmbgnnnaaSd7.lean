/- Spared of repairs (layer 7). -/
import Derived.Test.YthjjakhmbgnnnaaMu7
namespace Go.Proofs.Ythjjakhmbgnnnaa
open Go.RowKit
open Go.Sort (grow)
set_option linter.unusedVariables false

set_option maxRecDepth 100000 in
set_option maxHeartbeats 1600000 in
theorem Spared_c (A : Option Addr) (n c : Nat) (q : Cb) (ls : List Sp) (w : World) (hn : n ≤ 40) (hq : CbOk q) (HL : SpsAt w A n ls) :
    Calls Try.prog 39 #[.agg #[.slice A n c, .int .i64 q.need, .int .i64 q.gap, .int .i64 q.doubt, .int .i64 q.joins, .int .i64 q.least]] w (LiRet (spL n ls q) (erS n ls q) w) := by
  have HLI := Lib.hid HL
  clear HL
  rcases sh_cases n ls q with ⟨z, hz, e1, e2, hr⟩ | ⟨hck, e1, y, r, hL, e2, hy, hr⟩
  · have e3 : spL n ls q = [] := by
      unfold spL
      unfold erS at e1
      cases h : ckC n ls q
      · rfl
      · rw [h] at e1
        cases h2 : shL q ls n with
        | nil => rfl
        | cons a b => rw [h2] at e1; exact absurd e1.symm hz
    rw [e1, e3]
    have HR := Lib.hid hr
    have hzB : (z != 0) = true := by simpa using hz
    clear hr e1 e2 e3
    go_enter Try.func39, Try.ntmps39
    go_wp2_with fail
    refine (shortest_c A n c q ls _ hn hq (HLI.out.later (by (repeat first | with_reducible assumption | with_reducible exact Below.refl _ _ | (with_reducible refine Below.alloc ?_ ?side _; case side => (first | omega | (with_reducible exact Below.size (by assumption)) | (simp; done) | (simp; omega))) | (with_reducible refine Below.setCell ?_ ?side _; case side => (first | omega | (with_reducible exact Below.size (by assumption)) | (simp; done) | (simp; omega))) | with_reducible refine Below.drew ?_ | with_reducible refine below_drewN ?_ _ | (with_reducible refine below_step (by assumption) ?side ?_; case side => (first | omega | (with_reducible exact Below.size (by assumption)) | (simp; done) | (simp; omega))))))).mono ?_
    rintro e w1 ⟨h, hb1⟩
    rw [HR.out] at h
    subst h
    go_wp2_with fail
    exact bodyPost_ret (v := .tuple #[.slice none 0 0, .int .i64 z]) (by simp [results, Try.results39, go_sem]) rfl ⟨none, 0, rfl, ints_none _, by (repeat first | with_reducible assumption | with_reducible exact Below.refl _ _ | (with_reducible refine Below.alloc ?_ ?side _; case side => (first | omega | (with_reducible exact Below.size (by assumption)) | (simp; done) | (simp; omega))) | (with_reducible refine Below.setCell ?_ ?side _; case side => (first | omega | (with_reducible exact Below.size (by assumption)) | (simp; done) | (simp; omega))) | with_reducible refine Below.drew ?_ | with_reducible refine below_drewN ?_ _ | (with_reducible refine below_step (by assumption) ?side ?_; case side => (first | omega | (with_reducible exact Below.size (by assumption)) | (simp; done) | (simp; omega))))⟩
  · have e3 : spL n ls q = lefN (orL (y :: r)) n := by simp [spL, hck, hL]
    rw [e1, e3]
    have HR := Lib.hid hr
    have hn12 := ck_len hck
    have hp12 : (2 : Nat) ^ n ≤ 4096 := by
      have : 2 ^ n ≤ 2 ^ 12 := Nat.pow_le_pow_right (by omega) hn12
      omega
    obtain ⟨S, hSS⟩ : ∃ S, shL q ls n = S := ⟨_, rfl⟩
    have hall : ∀ x ∈ S, x < 4096 := fun x hx => by have := (shL_mem (q := q) (ls := ls) (n := n) (x := x) (by rw [hSS]; exact hx)).1.1; omega
    have hlen : S.length ≤ 4096 := by rw [← hSS]; have := (shK_bd q ls n (2 ^ n)).2; rw [shK_all] at this; omega
    rw [hSS] at HR hL
    rw [← hL]
    obtain ⟨m, hm⟩ : ∃ m, S.length = m := ⟨_, rfl⟩
    have hm0 : 0 < m := by rw [← hm, hL]; simp
    have hy0 : S.getD 0 0 = y := by rw [hL]; rfl
    rw [hm] at HR hlen
    have hyb : y < 4096 := by omega
    have hlc : ∀ W, Calls Try.prog 48 #[.int .u64 (orL S : Nat), .int .i64 n, .bool false] W fun e W' => ∃ A c, e = .returned (.slice A (lefN (orL S) n).length c) ∧ IntsAt W' A (lefN (orL S) n).length (ints (lefN (orL S) n)) ∧ Below W.heap.size W W' := fun W => by
      have := list_c (orL S) n false W (by have := or_lt S 0 12 (by omega) hall; unfold orL; omega) hn
      rwa [selN_false] at this
    replace hlc := Lib.hid hlc
    have HY0 := Lib.hid hy0
    have HMM := Lib.hid hm
    have HA := Lib.hid hall
    obtain ⟨L, hLm⟩ : ∃ L, lefN (orL S) n = L := ⟨_, rfl⟩
    rw [hLm] at hlc ⊢
    clear hr e1 e2 e3 hck hp12 hm hL hy hy0 hall hSS hLm
    go_enter Try.func39, Try.ntmps39
    go_wp2_with fail
    refine (shortest_c A n c q ls _ hn hq (HLI.out.later (by (repeat first | with_reducible assumption | with_reducible exact Below.refl _ _ | (with_reducible refine Below.alloc ?_ ?side _; case side => (first | omega | (with_reducible exact Below.size (by assumption)) | (simp; done) | (simp; omega))) | (with_reducible refine Below.setCell ?_ ?side _; case side => (first | omega | (with_reducible exact Below.size (by assumption)) | (simp; done) | (simp; omega))) | with_reducible refine Below.drew ?_ | with_reducible refine below_drewN ?_ _ | (with_reducible refine below_step (by assumption) ?side ?_; case side => (first | omega | (with_reducible exact Below.size (by assumption)) | (simp; done) | (simp; omega))))))).mono ?_
    rintro e w1 ⟨h, hb1⟩
    rw [HR.out] at h
    obtain ⟨B, cb, rfl, hu⟩ := h
    have HU := Lib.hid hu
    obtain ⟨bb, ob, hB, hbb, x0⟩ := hu.get hm0
    rw [HY0.out] at x0
    replace x0 : w1.cell? ⟨bb, ob, none⟩ = some (.int .u64 ((y : Nat) : Int)) := x0
    have d0 := fun i => (hb1.cell (p := ⟨w.heap.size, i, none⟩) (by simp)).trans ((al1_0 rfl).2.1 i)
    have z1 := hb1.size
    simp only [World.size_alloc] at z1
    have n1 : w.heap.size < w1.heap.size := by omega
    have B1 : Below w.heap.size w w1 := by (repeat first | with_reducible assumption | with_reducible exact Below.refl _ _ | (with_reducible refine Below.alloc ?_ ?side _; case side => (first | omega | (with_reducible exact Below.size (by assumption)) | (simp; done) | (simp; omega))) | (with_reducible refine Below.setCell ?_ ?side _; case side => (first | omega | (with_reducible exact Below.size (by assumption)) | (simp; done) | (simp; omega))) | with_reducible refine Below.drew ?_ | with_reducible refine below_drewN ?_ _ | (with_reducible refine below_step (by assumption) ?side ?_; case side => (first | omega | (with_reducible exact Below.size (by assumption)) | (simp; done) | (simp; omega))))
    have hmI : (0 : Int) < (m : Int) := by omega
    subst hB
    clear hu hb1
    go_wp2_with fail
    go_loop [6, 19] (fun a i => ∃ k : Nat, k ≤ m ∧ i = .int .i64 k ∧ a = .int .u64 ((orL (S.take k) : Nat) : Int)) (fun _ i => m - (intOf i).toNat)
    case atStart => exact ⟨0, by omega, rfl, rfl⟩
    case round =>
      obtain ⟨k, hk, rfl, rfl⟩ := hrel
      have hle : orL (S.take k) < 2 ^ 12 := or_lt (S.take k) 0 12 (by omega) fun x hx => HA.out x (List.mem_of_mem_take hx)
      by_cases hlt : k < m
      · have hltB : decide ((k : Int) < m) = true := by simp; omega
        obtain ⟨x, hx⟩ : ∃ x, S[k]? = some x := ⟨_, List.getElem?_eq_getElem (by rw [HMM.out]; exact hlt)⟩
        obtain ⟨b2, o2, hB2, hbb2, x1⟩ := HU.out.get hlt
        obtain ⟨rfl, rfl⟩ : bb = b2 ∧ ob = o2 := by simpa using hB2
        rw [getD_of hx] at x1
        have hxb := HA.out x (List.mem_of_getElem? hx)
        have HT := Lib.hid (show orL (S.take (k + 1)) = orL (S.take k) ||| x from take_fold _ _ _ hx)
        obtain ⟨a, ha⟩ : ∃ a, orL (S.take k) = a := ⟨_, rfl⟩
        rw [ha] at hle HT ⊢
        have hand := u64_or_nat a x (by omega) (by omega)
        clear ha hx hB2
        go_wp2_with fail
        refine ⟨⟨k + 1, by omega, by simp, by rw [HT.out]⟩, by simp [intOf]; omega⟩
      · obtain rfl : k = m := by omega
        have hltB : decide (((k : Nat) : Int) < k) = false := by simp
        rw [show S.take k = S by rw [← HMM.out, List.take_length]]
        go_wp2_with fail
        refine (hlc.out _).mono ?_
        rintro e w2 ⟨G2, c2, rfl, hi2, hb2⟩
        have HI2 := Lib.hid hi2
        clear hi2
        go_wp2_with fail
        refine bodyPost_ret (v := .tuple #[.slice G2 L.length c2, .int .i64 0]) (by simp [results, Try.results39, go_sem]) rfl ⟨G2, c2, rfl, HI2.out, by (repeat first | with_reducible assumption | with_reducible exact Below.refl _ _ | (with_reducible refine Below.alloc ?_ ?side _; case side => (first | omega | (with_reducible exact Below.size (by assumption)) | (simp; done) | (simp; omega))) | (with_reducible refine Below.setCell ?_ ?side _; case side => (first | omega | (with_reducible exact Below.size (by assumption)) | (simp; done) | (simp; omega))) | with_reducible refine Below.drew ?_ | with_reducible refine below_drewN ?_ _ | (with_reducible refine below_step (by assumption) ?side ?_; case side => (first | omega | (with_reducible exact Below.size (by assumption)) | (simp; done) | (simp; omega))))⟩

end Go.Proofs.Ythjjakhmbgnnnaa
