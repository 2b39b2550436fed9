/- cable and makes of orders (layer 8). -/
import Derived.Test.YtcbeiadimchknaaGreatQp12
import Derived.Test.YtcbeiadimchknaaGreatQp09
import Derived.Shelf.Abstract
import Derived.Laws.EntriesVeiled
import Derived.Handy
import Derived.Deep.DrawnRows
import Derived.Deep.DeepCutAuto
import Derived.BigRegionIn
import Derived.Shelf.RegionOpen
namespace Go.Proofs.YtcbeiadimchknaaGreat
open Go.RowKit
open Go.Sort (grow)
set_option linter.unusedVariables false
set_option linter.unusedSimpArgs false

theorem cbK_bd {nr ns nk : Nat} {rs : List Rt8} {ss : List Sp} {ks : List Sk8} {shk : Int} (ok : Ok8 nr ns nk rs ss ks shk) {pl : List Int} {sh : Int} : ∀ {k : Nat} {s : Cb8}, k ≤ nk → cbK ks shk pl sh k = some s → s.many ≤ k ∧ (0 ≤ s.lo ∧ s.lo ≤ 1008 * k) ∧ 0 ≤ s.hi ∧ s.hi ≤ 1008 * k
  | 0, s, _, h => by
    cases h
    simp
  | k + 1, s, hk, h => by
    unfold cbK at h
    cases e : cbK ks shk pl sh k with
    | none => rw [e] at h; cases h
    | some x =>
      rw [e] at h
      have ih := cbK_bd ok (by omega) e
      have h2 := ok.sk k (by omega)
      have h3 := ok.shk
      simp only at h
      split at h
      · split at h
        · cases h
        · cases h
          simp only
          refine ⟨by omega, ?_, ?_⟩ <;> split <;> omega
      · cases h
        omega
theorem cbK_none {ks : List Sk8} {shk : Int} {pl : List Int} {sh : Int} {k : Nat} (h : cbK ks shk pl sh k = none) : ∀ j, cbK ks shk pl sh (k + j) = none
  | 0 => h
  | j + 1 => by
    show cbK ks shk pl sh (k + j + 1) = none
    unfold cbK
    rw [cbK_none h j]
set_option maxRecDepth 100000 in
set_option maxHeartbeats 3200000 in
theorem cable_c (yb : Nat) (A : Option Addr) (nr c : Nat) (B : Option Addr) (ns d : Nat) (C : Option Addr) (nk f : Nat) (shk : Int) (Ah : Option Addr) (ch : Nat) (rs : List Rt8) (ss : List Sp) (ks : List Sk8) (P : Option Addr) (cp : Nat) (pl : List Int) (sh : Int) (w : World) (HY : Blk w yb 122 #[.slice A nr c, .slice B ns d, .slice C nk f, .int .i64 shk, .slice Ah ns ch]) (HC : SksAt w C nk ks) (HP : IntsAt w P nk pl) (ok : Ok8 nr ns nk rs ss ks shk) :
    Calls Tryz.prog 82 #[.pointer (some ⟨yb, 0, none⟩), .slice P nk cp, .int .i64 sh] w fun e w' => e = .returned (.tuple #[.int .i64 (cbR ks shk pl sh nk).1, .agg #[.int .i64 (cbR ks shk pl sh nk).2.1, .int .i64 (cbR ks shk pl sh nk).2.2]]) ∧ Below w.heap.size w w' := by
  have HCI := Lib.hid HC
  have HPI := Lib.hid HP
  have HBD := Lib.hid (fun (k : Nat) (s : Cb8) (hk : k ≤ nk) (h : cbK ks shk pl sh k = some s) => cbK_bd ok hk h)
  have HSK := Lib.hid ok.sk
  have h1 := ok.kl
  have h2 := ok.shk
  have HYI := Lib.hid HY
  obtain ⟨R, hR⟩ : ∃ R, cbR ks shk pl sh nk = R := ⟨_, rfl⟩
  rw [hR]
  have HR := Lib.hid hR
  clear HC HP ok HY hR
  have hly := HYI.out.lt
  go_enter Tryz.func82, Tryz.ntmps82
  go_upto_region 1 with (fail)
  obtain ⟨r, hr⟩ : ∃ x, w.heap.size = x := ⟨_, rfl⟩
  go_name_world X hX
  have BX := (al1 hX).1
  have zX := (al1 hX).2
  have HR0 : Hid (Blk X r 34 #[.int .i64 0, .int .i64 0]) := by rw [← hX, ← hr]; exact Lib.hid (Blk.new w _ _)
  have HY0 := Lib.hid (HYI.out.below BX hly)
  have q0 := HY0.out.cell
  have l0 := HY0.out.lt
  have hne : yb ≠ r := by omega
  have HRR := Lib.hid hr
  rw [hr]
  clear hX hr
  go_wp2_with fail
  clear q0 l0
  go_loopw [6, 8, 17] (fun z mn i (wv : World) => ∃ (k : Nat) (s : Cb8), k ≤ nk ∧ Hid (cbK ks shk pl sh k = some s) ∧ z = .int .i64 s.size ∧ mn = .int .i64 s.many ∧ i = .int .i64 k ∧ Hid (Blk wv r 34 #[.int .i64 s.lo, .int .i64 s.hi]) ∧ Hid (Blk wv yb 122 #[.slice A nr c, .slice B ns d, .slice C nk f, .int .i64 shk, .slice Ah ns ch]) ∧ Hid (Below w.heap.size w wv)) (fun _ _ i _ => nk - (intOf i).toNat)
  case atStart => exact ⟨0, ⟨0, 99, 0, 0⟩, by omega, Lib.hid rfl, rfl, rfl, rfl, HR0, HY0, Lib.hid BX⟩
  case round =>
    obtain ⟨k, ⟨mn, z, lo, hi⟩, hk, HS, rfl, rfl, rfl, HRk, HYk, HBk⟩ := hrel
    clear HY0 HR0 BX zX
    have hyl := HYk.out.lt
    have hrl := HRk.out.lt
    have hbs := HBk.out.size
    by_cases hlt : k < nk
    · have hqB : decide ((k : Int) < nk) = true := decide_eq_true (by omega)
      have vk : IntKind.i64.wrap ((k : Int) + 1) = (k : Int) + 1 := IntWalk.i64_in _ (by omega)
      obtain ⟨bd1, bd2, bd3⟩ := HBD.out k _ hk HS.out
      have hsk := HSK.out k hlt
      have hsu : cbK ks shk pl sh (k + 1) = if iAt pl k = sh then (if 0 < mn ∧ (skAt ks k).size ≠ z then none else some ⟨mn + 1, (skAt ks k).size, (if 0 < mn then lo + shk else lo) + (skAt ks k).lo, (if 0 < mn then hi + shk else hi) + (skAt ks k).hi⟩) else some ⟨mn, z, lo, hi⟩ := by
        show (match cbK ks shk pl sh k with | none => none | some s => _) = _
        rw [HS.out]
      obtain ⟨b0, o0, hC, hb0, x0, x1, x2⟩ := (HCI.out.later HBk.out).get hlt
      obtain ⟨b1, o1, hP, hb1, y0⟩ := (HPI.out.later HBk.out).get hlt
      obtain ⟨⟨u0, u1, u2⟩, hu⟩ : ∃ x, skAt ks k = x := ⟨_, rfl⟩
      rw [hu] at x0 x1 x2 hsk hsu
      simp only at x0 x1 x2 hsk hsu bd1 bd2 bd3
      obtain ⟨p, hp⟩ : ∃ x, iAt pl k = x := ⟨_, rfl⟩
      rw [hp] at y0 hsu
      have HSU := Lib.hid hsu
      subst hC
      subst hP
      clear hsu hu hp HS
      go_upto_region 6 with (fail)
      go_name_world Z hZ
      have BZ : Below wr.heap.size wr Z := (al1 hZ).1
      have HKZ : Hid (Blk Z wr.heap.size 77 #[.int .i64 u0, .int .i64 u1, .int .i64 u2]) := by rw [← hZ]; exact Lib.hid (Blk.new wr _ _)
      have HYZ := Lib.hid (HYk.out.below BZ hyl)
      have HRZ := Lib.hid (HRk.out.below BZ hrl)
      have y1 := (BZ.cell (p := ⟨b1, o1 + k, none⟩) hb1).trans y0
      have hb1z : b1 < Z.heap.size := Nat.lt_of_lt_of_le hb1 BZ.size
      have HBZ := Lib.hid (HBk.out.trans (BZ.mono hbs))
      clear x0 x1 x2 y0 hZ HYk HRk
      by_cases hps : p = sh
      case neg =>
        have hpB : (p != sh) = true := by simpa [bne] using hps
        rw [if_neg hps] at HSU
        go_wp2_with fail
        go_roundw
        case rel => exact ⟨k + 1, _, by omega, HSU, rfl, rfl, by go_num, HRZ, HYZ, HBZ⟩
        case measure => simp [intOf]; omega
      have hpB : (p != sh) = false := by simp [bne, hps]
      rw [if_pos hps] at HSU
      have ck := HKZ.out.cell
      have lk := HKZ.out.lt
      have cr := HRZ.out.cell
      have fr := HRZ.out.frozen
      have lr := HRZ.out.lt
      have cy := HYZ.out.cell
      have ly := HYZ.out.lt
      by_cases hm : 0 < mn
      · have hmB : decide (0 < (mn : Int)) = true := decide_eq_true (by omega)
        by_cases hz : u0 = z
        · have hzB : (u0 != z) = false := by simp [bne, hz]
          rw [if_neg (by simp [hz]), if_pos hm, if_pos hm] at HSU
          have v1 : IntKind.i64.wrap (lo + shk) = lo + shk := IntWalk.i64_in _ (by omega)
          have v2 : IntKind.i64.wrap (hi + shk) = hi + shk := IntWalk.i64_in _ (by omega)
          have v3 : IntKind.i64.wrap (lo + shk + u1) = lo + shk + u1 := IntWalk.i64_in _ (by omega)
          have v4 : IntKind.i64.wrap (hi + shk + u2) = hi + shk + u2 := IntWalk.i64_in _ (by omega)
          have v5 : IntKind.i64.wrap ((mn : Int) + 1) = (mn : Int) + 1 := IntWalk.i64_in _ (by omega)
          go_upto_region 11 with (fail)
          refine (Go.wpIn_wide (n := 3)).1 ?_
          have hS : (∀ j, Z.drew.cell? ⟨yb, j, none⟩ = #[Value.slice A nr c, .slice B ns d, .slice (some ⟨b0, o0, none⟩) nk f, .int .i64 shk, .slice Ah ns ch][j]?) ∧ (∀ j, Z.drew.cell? ⟨r, j, none⟩ = #[Value.int .i64 lo, .int .i64 hi][j]?) := ⟨fun j => cy j, fun j => cr j⟩
          refine wpIn_region_M (by kernel_rfl) (fun W' => (∀ j, W'.cell? ⟨yb, j, none⟩ = #[Value.slice A nr c, .slice B ns d, .slice (some ⟨b0, o0, none⟩) nk f, .int .i64 shk, .slice Ah ns ch][j]?) ∧ (∀ j, W'.cell? ⟨r, j, none⟩ = #[Value.int .i64 lo, .int .i64 hi][j]?)) 17 ?_
          rw [show ({ Z with drawn := Z.drawn + 1 } : World) = Z.drew from rfl]
          have frd : ∀ j, Z.drew.frozen? ⟨r, j, none⟩ = false := fr
          have lrd : r < Z.drew.heap.size := lr
          refine wpAnyM_take (fun _ => trivial) (by rfl) (i := 0) (v := ?_) rfl (by kernel_rfl) (by kernel_rfl) (by kernel_rfl) (by kernel_rfl) (fun _ _ _ h => h) hS (Or.inl ⟨by rfl, ?_⟩) ?_
          rotate_left 1
          · intro w9 hw9
            obtain ⟨s0, s1⟩ := hw9
            go_simp
            try with_reducible rfl
          try simp only [List.getElem_toArray, List.getElem_cons_zero, List.getElem_cons_succ, Act.put, List.setIfInBounds_toArray, List.set_cons_zero, List.set_cons_succ]
          refine wpAnyM_take (fun _ => trivial) (by rfl) (i := 1) (v := ?_) rfl (by kernel_rfl) (by kernel_rfl) (by kernel_rfl) (by kernel_rfl) (fun _ _ _ h => h) hS (Or.inl ⟨by rfl, ?_⟩) ?_
          rotate_left 1
          · intro w9 hw9
            obtain ⟨s0, s1⟩ := hw9
            go_simp
            try with_reducible rfl
          try simp only [List.getElem_toArray, List.getElem_cons_zero, List.getElem_cons_succ, Act.put, List.setIfInBounds_toArray, List.set_cons_zero, List.set_cons_succ]
          refine wpAnyM_take (fun _ => trivial) (by rfl) (i := 2) (v := ?_) rfl (by kernel_rfl) (by kernel_rfl) (by kernel_rfl) (by kernel_rfl) (fun _ _ _ h => h) hS (Or.inl ⟨by rfl, ?_⟩) ?_
          rotate_left 1
          · intro w9 hw9
            obtain ⟨s0, s1⟩ := hw9
            go_simp
            try with_reducible rfl
          try simp only [List.getElem_toArray, List.getElem_cons_zero, List.getElem_cons_succ, Act.put, List.setIfInBounds_toArray, List.set_cons_zero, List.set_cons_succ]
          refine wpAnyM_take (fun _ => trivial) (by rfl) (i := 3) (v := ?_) rfl (by kernel_rfl) (by kernel_rfl) (by kernel_rfl) (by kernel_rfl) (fun _ _ _ h => h) hS (Or.inl ⟨by rfl, ?_⟩) ?_
          rotate_left 1
          · intro w9 hw9
            obtain ⟨s0, s1⟩ := hw9
            go_simp
            try with_reducible rfl
          try simp only [List.getElem_toArray, List.getElem_cons_zero, List.getElem_cons_succ, Act.put, List.setIfInBounds_toArray, List.set_cons_zero, List.set_cons_succ]
          refine wpAnyM_take (fun _ => trivial) (by rfl) (i := 4) (v := ?_) rfl (by kernel_rfl) (by kernel_rfl) (by kernel_rfl) (by kernel_rfl) (fun _ _ _ h => h) hS (Or.inl ⟨by rfl, ?_⟩) ?_
          rotate_left 1
          · intro w9 hw9
            obtain ⟨s0, s1⟩ := hw9
            go_simp
            try with_reducible rfl
          try simp only [List.getElem_toArray, List.getElem_cons_zero, List.getElem_cons_succ, Act.put, List.setIfInBounds_toArray, List.set_cons_zero, List.set_cons_succ]
          refine wpAnyM_take (fun _ => trivial) (by rfl) (i := 5) (v := ?_) rfl (by kernel_rfl) (by kernel_rfl) (by kernel_rfl) (by kernel_rfl) (fun _ _ _ h => h) hS (Or.inl ⟨by rfl, ?_⟩) ?_
          rotate_left 1
          · intro w9 hw9
            obtain ⟨s0, s1⟩ := hw9
            go_simp
            try with_reducible rfl
          try simp only [List.getElem_toArray, List.getElem_cons_zero, List.getElem_cons_succ, Act.put, List.setIfInBounds_toArray, List.set_cons_zero, List.set_cons_succ]
          refine wpAnyM_take (fun _ => trivial) (by rfl) (i := 6) (v := ?_) rfl (by kernel_rfl) (by kernel_rfl) (by kernel_rfl) (by kernel_rfl) (fun _ _ _ h => h) hS (Or.inl ⟨by rfl, ?_⟩) ?_
          rotate_left 1
          · intro w9 hw9
            obtain ⟨s0, s1⟩ := hw9
            go_simp
            try with_reducible rfl
          try simp only [List.getElem_toArray, List.getElem_cons_zero, List.getElem_cons_succ, Act.put, List.setIfInBounds_toArray, List.set_cons_zero, List.set_cons_succ]
          refine wpAnyM_take (fun _ => trivial) (by rfl) (i := 7) (v := ?_) rfl (by kernel_rfl) (by kernel_rfl) (by kernel_rfl) (by kernel_rfl) (fun _ _ _ h => h) hS (Or.inl ⟨by rfl, ?_⟩) ?_
          rotate_left 1
          · intro w9 hw9
            obtain ⟨s0, s1⟩ := hw9
            go_simp
            try with_reducible rfl
          try simp only [List.getElem_toArray, List.getElem_cons_zero, List.getElem_cons_succ, Act.put, List.setIfInBounds_toArray, List.set_cons_zero, List.set_cons_succ]
          refine wpAnyM_take (fun _ => trivial) (by rfl) (i := 8) (v := ?_) rfl (by kernel_rfl) (by kernel_rfl) (by kernel_rfl) (by kernel_rfl) (fun _ _ _ h => h) hS (Or.inl ⟨by rfl, ?_⟩) ?_
          rotate_left 1
          · intro w9 hw9
            obtain ⟨s0, s1⟩ := hw9
            go_simp
            try with_reducible rfl
          try simp only [List.getElem_toArray, List.getElem_cons_zero, List.getElem_cons_succ, Act.put, List.setIfInBounds_toArray, List.set_cons_zero, List.set_cons_succ]
          refine wpAnyM_take (fun _ => trivial) (by rfl) (i := 9) (v := ?_) rfl (by kernel_rfl) (by kernel_rfl) (by kernel_rfl) (by kernel_rfl) (fun _ _ _ h => h) hS (Or.inl ⟨by rfl, ?_⟩) ?_
          rotate_left 1
          · intro w9 hw9
            obtain ⟨s0, s1⟩ := hw9
            go_simp
            try with_reducible rfl
          try simp only [List.getElem_toArray, List.getElem_cons_zero, List.getElem_cons_succ, Act.put, List.setIfInBounds_toArray, List.set_cons_zero, List.set_cons_succ]
          refine wpAnyM_take (fun _ => trivial) (by rfl) (i := 10) (v := ?_) rfl (by kernel_rfl) (by kernel_rfl) (by kernel_rfl) (by kernel_rfl) (fun _ _ _ h => h) hS (Or.inl ⟨by rfl, ?_⟩) ?_
          rotate_left 1
          · intro w9 hw9
            obtain ⟨s0, s1⟩ := hw9
            go_simp
            try with_reducible rfl
          try simp only [List.getElem_toArray, List.getElem_cons_zero, List.getElem_cons_succ, Act.put, List.setIfInBounds_toArray, List.set_cons_zero, List.set_cons_succ]
          refine wpAnyM_take (fun _ => trivial) (by rfl) (i := 11) (v := ?_) rfl (by kernel_rfl) (by kernel_rfl) (by kernel_rfl) (by kernel_rfl) (fun _ _ _ h => h) hS (Or.inl ⟨by rfl, ?_⟩) ?_
          rotate_left 1
          · intro w9 hw9
            obtain ⟨s0, s1⟩ := hw9
            go_simp
            try with_reducible rfl
          try simp only [List.getElem_toArray, List.getElem_cons_zero, List.getElem_cons_succ, Act.put, List.setIfInBounds_toArray, List.set_cons_zero, List.set_cons_succ]
          refine wpAnyM_take (fun _ => trivial) (by rfl) (i := 12) (v := ?_) rfl (by kernel_rfl) (by kernel_rfl) (by kernel_rfl) (by kernel_rfl) (fun _ _ _ h => h) hS (Or.inl ⟨by rfl, ?_⟩) ?_
          rotate_left 1
          · intro w9 hw9
            obtain ⟨s0, s1⟩ := hw9
            go_simp
            try with_reducible rfl
          try simp only [List.getElem_toArray, List.getElem_cons_zero, List.getElem_cons_succ, Act.put, List.setIfInBounds_toArray, List.set_cons_zero, List.set_cons_succ]
          refine wpAnyM_take (fun _ => trivial) (by rfl) (i := 13) (v := ?_) rfl (by kernel_rfl) (by kernel_rfl) (by kernel_rfl) (by kernel_rfl) (fun _ _ _ h => h) hS (Or.inl ⟨by rfl, ?_⟩) ?_
          rotate_left 1
          · intro w9 hw9
            obtain ⟨s0, s1⟩ := hw9
            go_simp
            try with_reducible rfl
          try simp only [List.getElem_toArray, List.getElem_cons_zero, List.getElem_cons_succ, Act.put, List.setIfInBounds_toArray, List.set_cons_zero, List.set_cons_succ]
          refine wpAnyM_take (fun _ => trivial) (by rfl) (i := 14) (v := ?_) rfl (by kernel_rfl) (by kernel_rfl) (by kernel_rfl) (by kernel_rfl) (fun _ _ _ h => h) hS (Or.inl ⟨by rfl, ?_⟩) ?_
          rotate_left 1
          · intro w9 hw9
            obtain ⟨s0, s1⟩ := hw9
            go_simp
            try with_reducible rfl
          try simp only [List.getElem_toArray, List.getElem_cons_zero, List.getElem_cons_succ, Act.put, List.setIfInBounds_toArray, List.set_cons_zero, List.set_cons_succ]
          refine wpAnyM_take (fun _ => trivial) (by rfl) (i := 15) (v := ?_) rfl (by kernel_rfl) (by kernel_rfl) (by kernel_rfl) (by kernel_rfl) (fun _ _ _ h => h) hS (Or.inl ⟨by rfl, ?_⟩) ?_
          rotate_left 1
          · intro w9 hw9
            obtain ⟨s0, s1⟩ := hw9
            go_simp
            try with_reducible rfl
          try simp only [List.getElem_toArray, List.getElem_cons_zero, List.getElem_cons_succ, Act.put, List.setIfInBounds_toArray, List.set_cons_zero, List.set_cons_succ]
          refine wpAnyM_take (fun _ => trivial) (by rfl) (i := 16) (v := ?_) rfl (by kernel_rfl) (by kernel_rfl) (by kernel_rfl) (by kernel_rfl) (fun _ _ _ h => h) hS (Or.inl ⟨by rfl, ?_⟩) ?_
          rotate_left 1
          · intro w9 hw9
            obtain ⟨s0, s1⟩ := hw9
            go_simp
            try with_reducible rfl
          try simp only [List.getElem_toArray, List.getElem_cons_zero, List.getElem_cons_succ, Act.put, List.setIfInBounds_toArray, List.set_cons_zero, List.set_cons_succ]
          clear hS
          refine wpAnyM_one (i := 17) (by kernel_rfl) rfl (fun Kx hKx => ?_)
          go_simp
          refine hKx.out _ _ (fun h => by simp at h) ?_
          clear hKx Kx
          try simp only [List.getElem_toArray, List.getElem_cons_zero, List.getElem_cons_succ, Act.put, List.setIfInBounds_toArray, List.set_cons_zero, List.set_cons_succ]
          refine wpAnyM_done (by kernel_rfl) ?_ _
          go_wp2_with fail
          go_roundw
          case rel => exact ⟨k + 1, _, by omega, HSU, by first | rfl | (rw [hz]), by simp, by go_num, Lib.hid ((((HRZ.out.set_ 0 _).set_ 1 _).set_ 0 _).set_ 1 _), Lib.hid ((((HYZ.out.far (p := ⟨r, 0, none⟩) hne _).far (p := ⟨r, 1, none⟩) hne _).far (p := ⟨r, 0, none⟩) hne _).far (p := ⟨r, 1, none⟩) hne _), Lib.hid (Below.setCell (p := ⟨r, 1, none⟩) (Below.setCell (p := ⟨r, 0, none⟩) (Below.setCell (p := ⟨r, 1, none⟩) (Below.setCell (p := ⟨r, 0, none⟩) (Below.drew HBZ.out) (by show _ ≤ r; have := HRR.out; omega) _) (by show _ ≤ r; have := HRR.out; omega) _) (by show _ ≤ r; have := HRR.out; omega) _) (by show _ ≤ r; have := HRR.out; omega) _)⟩
          case measure => simp [intOf]; omega
        · have hzB : (u0 != z) = true := by simpa [bne] using hz
          rw [if_pos ⟨hm, hz⟩] at HSU
          have HR2 : Hid (R = (-1, 0, 0)) := Lib.hid (by
            rw [← HR.out]
            unfold cbR
            rw [show nk = k + 1 + (nk - (k + 1)) by omega, cbK_none HSU.out])
          go_wp2_with fail
          have BB := Below.setCell (p := ⟨r, 1, none⟩) (Below.setCell (p := ⟨r, 0, none⟩) HBZ.out (by show _ ≤ r; have := HRR.out; omega) (.int .i64 0)) (by show _ ≤ r; have := HRR.out; omega) (.int .i64 0)
          have kk := (HRZ.out.set_ 0 (.int .i64 0)).set_ 1 (.int .i64 0)
          have e0 := kk.cell 0
          have e1 := kk.cell 1
          refine bodyPost_ret (v := .tuple #[.int .i64 (-1), .agg #[.int .i64 0, .int .i64 0]]) ?_ rfl ⟨by rw [HR2.out], BB⟩
          simp [results, Tryz.results82, go_sem, e0, e1]
      · have hmB : decide (0 < (mn : Int)) = false := decide_eq_false (by omega)
        rw [if_neg (fun h => hm h.1), if_neg hm, if_neg hm] at HSU
        have v3 : IntKind.i64.wrap (lo + u1) = lo + u1 := IntWalk.i64_in _ (by omega)
        have v4 : IntKind.i64.wrap (hi + u2) = hi + u2 := IntWalk.i64_in _ (by omega)
        have v5 : IntKind.i64.wrap ((mn : Int) + 1) = (mn : Int) + 1 := IntWalk.i64_in _ (by omega)
        go_wp2_with fail
        go_roundw
        case rel => exact ⟨k + 1, _, by omega, HSU, rfl, by simp, by go_num, Lib.hid ((HRZ.out.set_ 0 _).set_ 1 _), Lib.hid ((HYZ.out.far (p := ⟨r, 0, none⟩) hne _).far (p := ⟨r, 1, none⟩) hne _), Lib.hid (Below.setCell (p := ⟨r, 1, none⟩) (Below.setCell (p := ⟨r, 0, none⟩) HBZ.out (by show _ ≤ r; have := HRR.out; omega) _) (by show _ ≤ r; have := HRR.out; omega) _)⟩
        case measure => simp [intOf]; omega
    · obtain rfl : k = nk := by omega
      have hqB : decide (((k : Nat) : Int) < k) = false := decide_eq_false (by omega)
      have HR2 : Hid (R = (z, lo, hi)) := Lib.hid (by
        rw [← HR.out]
        unfold cbR
        rw [HS.out])
      have cr := HRk.out.cell
      have fr := HRk.out.frozen
      go_upto_region 15 with (fail)
      refine (Go.wpIn_wide (n := 3)).1 ?_
      have hS : (∀ j, wr.drew.cell? ⟨r, j, none⟩ = #[Value.int .i64 lo, .int .i64 hi][j]?) ∧ True := ⟨fun j => cr j, trivial⟩
      refine wpIn_region_M (by kernel_rfl) (fun W' => (∀ j, W'.cell? ⟨r, j, none⟩ = #[Value.int .i64 lo, .int .i64 hi][j]?) ∧ True) 3 ?_
      rw [show ({ wr with drawn := wr.drawn + 1 } : World) = wr.drew from rfl]
      have frd : ∀ j, wr.drew.frozen? ⟨r, j, none⟩ = false := fr
      have lrd : r < wr.drew.heap.size := hrl
      refine wpAnyM_take (fun _ => trivial) (by rfl) (i := 0) (v := ?_) rfl (by kernel_rfl) (by kernel_rfl) (by kernel_rfl) (by kernel_rfl) (fun _ _ _ h => h) hS (Or.inl ⟨by rfl, ?_⟩) ?_
      rotate_left 1
      · intro w9 hw9
        obtain ⟨s0, s1⟩ := hw9
        go_simp
        try with_reducible rfl
      try simp only [List.getElem_toArray, List.getElem_cons_zero, List.getElem_cons_succ, Act.put, List.setIfInBounds_toArray, List.set_cons_zero, List.set_cons_succ]
      refine wpAnyM_take (fun _ => trivial) (by rfl) (i := 1) (v := ?_) rfl (by kernel_rfl) (by kernel_rfl) (by kernel_rfl) (by kernel_rfl) (fun _ _ _ h => h) hS (Or.inl ⟨by rfl, ?_⟩) ?_
      rotate_left 1
      · intro w9 hw9
        obtain ⟨s0, s1⟩ := hw9
        go_simp
        try with_reducible rfl
      try simp only [List.getElem_toArray, List.getElem_cons_zero, List.getElem_cons_succ, Act.put, List.setIfInBounds_toArray, List.set_cons_zero, List.set_cons_succ]
      refine wpAnyM_take (fun _ => trivial) (by rfl) (i := 2) (v := ?_) rfl (by kernel_rfl) (by kernel_rfl) (by kernel_rfl) (by kernel_rfl) (fun _ _ _ h => h) hS (Or.inl ⟨by rfl, ?_⟩) ?_
      rotate_left 1
      · intro w9 hw9
        obtain ⟨s0, s1⟩ := hw9
        go_simp
        try with_reducible rfl
      try simp only [List.getElem_toArray, List.getElem_cons_zero, List.getElem_cons_succ, Act.put, List.setIfInBounds_toArray, List.set_cons_zero, List.set_cons_succ]
      clear hS
      refine wpAnyM_one (i := 3) (by kernel_rfl) rfl (fun Kx hKx => ?_)
      go_simp
      refine hKx.out _ _ (fun h => by simp at h) ?_
      clear hKx Kx
      try simp only [List.getElem_toArray, List.getElem_cons_zero, List.getElem_cons_succ, Act.put, List.setIfInBounds_toArray, List.set_cons_zero, List.set_cons_succ]
      refine wpAnyM_done (by kernel_rfl) ?_ _
      go_wp2_with fail
      have BB := Below.setCell (p := ⟨r, 1, none⟩) (Below.setCell (p := ⟨r, 0, none⟩) (Below.drew HBk.out) (by show _ ≤ r; have := HRR.out; omega) (.int .i64 lo)) (by show _ ≤ r; have := HRR.out; omega) (.int .i64 hi)
      have kk := (HRk.out.set_ 0 (.int .i64 lo)).set_ 1 (.int .i64 hi)
      have e0 := kk.cell 0
      have e1 := kk.cell 1
      have e2 := (HRk.out.set_ 0 (.int .i64 lo)).cell 0
      have e3 := (HRk.out.set_ 0 (.int .i64 lo)).cell 1
      refine bodyPost_ret (v := .tuple #[.int .i64 z, .agg #[.int .i64 lo, .int .i64 hi]]) ?_ rfl ⟨by rw [HR2.out], BB⟩
      simp [results, Tryz.results82, go_sem, e0, e1, e2, e3]

end Go.Proofs.YtcbeiadimchknaaGreat
