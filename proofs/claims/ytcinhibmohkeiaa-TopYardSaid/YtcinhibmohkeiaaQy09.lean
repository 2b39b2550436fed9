/- closure and node of checks (layer 5). -/
import Derived.Test.YtcinhibmohkeiaaChecked
import Derived.Test.YtcinhibmohkeiaaQy03
import Derived.Test.YtcinhibmohkeiaaQy08
import Derived.Shelf.Abstract
import Derived.Laws.EntriesVeiled
import Derived.Handy
import Derived.Deep.DrawnRows
import Derived.Deep.DeepCutAuto
import Derived.BigRegionIn
import Derived.Shelf.RegionOpen
import Derived.Deep.RegionHeld3
import Derived.Laws.CopyRow
namespace Go.Proofs.Ytcinhibmohkeiaa
open Go.RowKit
open Go.Sort (grow)
set_option linter.unusedVariables false
set_option linter.unusedSimpArgs false

attribute [local go_sem] Oper.semAt_some
theorem run_min25 {P : Program} {w : World} (ts : Array TypeId) (t : TypeId) (x y : Int) : (Builtin.min_ ts t #[.int .i64 x, .int .i64 y]).run P w = .ok (.int .i64 (min x y)) w := by
  simp [Builtin.min_, Builtin.min2]
  omega
attribute [local go_sem high] run_min25
set_option maxHeartbeats 400000 in
theorem node_c (m : Nat) (x : Int) (w : World) (hx : -1 ≤ x) :
    Calls Try.prog 63 #[.int .i64 m, .int .i64 x] w fun e w' => e = .returned (.int .i64 (nd5 m x)) ∧ w = w' := by
  unfold nd5
  by_cases h : x = -1
  · subst h
    go_enter Try.func63, Try.ntmps63
    go_wp2_with fail
    go_ret
    exact ⟨by simp, rfl⟩
  · have hb : (x == -1) = false := by simpa using h
    have hd : decide (x = -1) = false := by simpa using h
    have hn : ((x.toNat : Nat) : Int) = x := by omega
    rw [if_neg h, hn]
    clear hn
    go_enter Try.func63, Try.ntmps63
    go_wp2_with fail
    go_ret
    exact ⟨rfl, rfl⟩
theorem node_b (m : Nat) (x : Int) (w : World) (hx : -1 ≤ x) :
    Calls Try.prog 63 #[.int .i64 m, .int .i64 x] w fun e w' => e = .returned (.int .i64 (nd5 m x)) ∧ Below w.heap.size w w' :=
  (node_c m x w hx).mono fun e w' h => ⟨h.1, by rw [← h.2]; exact Below.refl _ _⟩
set_option maxRecDepth 100000 in
set_option maxHeartbeats 3200000 in
theorem closure_c (m : Nat) (L : Option Addr) (ne ce : Nat) (es : List Ed5) (w : World) (hm : m ≤ 5) (hne : ne ≤ 1000) (hok : EdOk m es) (HE : EdsAt w L ne es) :
    Calls Try.prog 51 #[.int .i64 m, .slice L ne ce] w fun e w' => e = .returned (.tuple #[.agg (tbV (clT m es)), .bool (clB m (clT m es))]) ∧ Below w.heap.size w w' := by
  have HEI := Lib.hid HE
  have hel := HE.1
  clear HE
  obtain ⟨F, hF⟩ : ∃ T, clT m es = T := ⟨_, rfl⟩
  rw [hF]
  obtain ⟨C, hC⟩ : ∃ T, clB m F = T := ⟨_, rfl⟩
  rw [hC]
  have HCC := Lib.hid hC
  have HFF : Hid (itr (fw3 m) (itr (ed1 m es) in3 es.length) (m + 1) = F) := Lib.hid hF
  have HFL : Hid (F.length = 36) := Lib.hid (by rw [← hF]; exact clT_len)
  clear hC hF
  go_enter Try.func51, Try.ntmps51
  go_upto_region 1 with (fail)
  go_name_world X hX
  have BX : Hid (Below w.heap.size w X) := Lib.hid (al1 hX).1
  have HT0 : Hid (Blk X w.heap.size 104 (tbV (List.replicate 36 0))) := by rw [← hX]; exact Lib.hid (Blk.new w _ _)
  clear hX
  go_wp2_with fail
  go_loopw [15] (fun i (wr : World) => ∃ a : Nat, a ≤ 6 ∧ i = .int .i64 a ∧ Hid (Below w.heap.size w wr) ∧ Hid (Blk wr w.heap.size 104 (tbV (itr in2 (List.replicate 36 0) a)))) (fun i _ => 6 - (intOf i).toNat)
  case atStart => exact ⟨0, by omega, by simp, BX, HT0⟩
  case round =>
    obtain ⟨a, ha, rfl, HBr, HTr⟩ := hrel
    by_cases h6 : a < 6
    · have hB : decide ((a : Int) < 6) = true := decide_eq_true (by omega)
      have va : IntKind.i64.wrap ((a : Int) + 1) = (a : Int) + 1 := IntWalk.i64_in _ (by omega)
      obtain ⟨T0, hT0⟩ : ∃ T, itr in2 (List.replicate 36 0) a = T := ⟨_, rfl⟩
      have hl0 : T0.length = 36 := by rw [← hT0, itr_len (fun T k => in2_len T k)]; simp
      rw [hT0] at HTr
      have HT0' := Lib.hid hT0
      have HL0 := Lib.hid hl0
      clear hT0 hl0
      go_wp2_with fail
      go_loopw [18] (fun i (wr : World) => ∃ b : Nat, b ≤ 6 ∧ i = .int .i64 b ∧ Hid (Below w.heap.size w wr) ∧ Hid (Blk wr w.heap.size 104 (tbV (itr (in1 a) T0 b)))) (fun i _ => 6 - (intOf i).toNat)
      case atStart => exact ⟨0, by omega, by simp, HBr, HTr⟩
      case round =>
        obtain ⟨b, hb, rfl, HBs, HTs⟩ := hrel
        by_cases g6 : b < 6
        · have gB : decide ((b : Int) < 6) = true := decide_eq_true (by omega)
          have vb : IntKind.i64.wrap ((b : Int) + 1) = (b : Int) + 1 := IntWalk.i64_in _ (by omega)
          obtain ⟨T1, hT1⟩ : ∃ T, itr (in1 a) T0 b = T := ⟨_, rfl⟩
          have hl1 : T1.length = 36 := by rw [← hT1, itr_len (fun T k => in1_len T k), HL0.out]
          rw [hT1] at HTs
          have HT1 := Lib.hid hT1
          have HL1 := Lib.hid hl1
          have hlt := HTs.out.lt
          clear hT1 hl1
          by_cases hab : a = b
          · have hn : ((a : Int) == b) = true := by simp [hab]
            go_wp2_with fail
            go_roundw
            case rel => exact ⟨b + 1, by omega, by go_num, HBs, by show Hid (Blk _ _ _ (tbV (in1 a (itr (in1 a) T0 b) b))); rw [HT1.out]; unfold in1; rw [if_pos hab]; exact HTs⟩
            case measure => simp [intOf]; omega
          · have hn : ((a : Int) == b) = false := by simp; omega
            have hc := (HTs.out.cell (a * 6 + b)).trans (tbV_get (by rw [HL1.out]; omega))
            have hf := HTs.out.frozen (a * 6 + b)
            go_wp2_with fail
            refine ⟨⟨b + 1, by omega, by go_num, Lib.hid (Below.setCell (p := ⟨w.heap.size, a * 6 + b, none⟩) HBs.out (Nat.le_refl _) _), ?_⟩, ?_⟩
            · show Hid (Blk _ _ _ (tbV (in1 a (itr (in1 a) T0 b) b)))
              rw [HT1.out]
              unfold in1
              rw [if_neg hab, ← tbV_set]
              exact Lib.hid (HTs.out.set_ (a * 6 + b) _)
            · simp [intOf]; omega
        · obtain rfl : b = 6 := by omega
          have gB : decide (((6 : Nat) : Int) < 6) = false := decide_eq_false (by omega)
          go_wp2_with fail
          go_roundw
          case rel => exact ⟨a + 1, by omega, by go_num, HBs, by show Hid (Blk _ _ _ (tbV (in2 (itr in2 (List.replicate 36 0) a) a))); rw [HT0'.out]; exact HTs⟩
          case measure => simp [intOf]; omega
    · have ha6 : a = 6 := by omega
      have hB : decide ((a : Int) < 6) = false := decide_eq_false (by omega)
      obtain ⟨T0, hT0⟩ : ∃ T, in3 = T := ⟨_, rfl⟩
      have hl0 : T0.length = 36 := by rw [← hT0, in3_len]
      have HTe : Hid (Blk wr w.heap.size 104 (tbV T0)) := by rw [← hT0]; rw [ha6] at HTr; exact HTr
      have HT0' := Lib.hid hT0
      have HL0 := Lib.hid hl0
      have HEL := Lib.hid hel
      clear hT0 hl0 HTr hel ha h6 ha6
      go_wp2_with fail
      go_loopw [32] (fun i (wr : World) => ∃ k : Nat, k ≤ ne ∧ i = .int .i64 k ∧ Hid (Below w.heap.size w wr) ∧ Hid (Blk wr w.heap.size 104 (tbV (itr (ed1 m es) T0 k)))) (fun i _ => ne - (intOf i).toNat)
      case atStart => exact ⟨0, by omega, by simp, HBr, HTe⟩
      case round =>
        obtain ⟨k, hk, rfl, HBs, HTs⟩ := hrel
        obtain ⟨T1, hT1⟩ : ∃ T, itr (ed1 m es) T0 k = T := ⟨_, rfl⟩
        have hl1 : T1.length = 36 := by rw [← hT1, itr_len (fun T k => ed1_len T k), HL0.out]
        rw [hT1] at HTs
        have HT1 := Lib.hid hT1
        have HL1 := Lib.hid hl1
        clear hT1 hl1
        by_cases hkn : k < ne
        · have gB : decide ((k : Int) < ne) = true := decide_eq_true (by omega)
          have vk : IntKind.i64.wrap ((k : Int) + 1) = (k : Int) + 1 := IntWalk.i64_in _ (by omega)
          obtain ⟨lb, lo, hA, hb, x0, x1, x2, x3⟩ := (HEI.out.later HBs.out).get hkn
          subst hA
          have hnd := hok k (by rw [HEL.out]; exact hkn)
          have HED : Hid (ed1 m es T1 k = T1.set (nd5 m (edAt es k).fr * 6 + nd5 m (edAt es k).to) (min (iAt T1 (nd5 m (edAt es k).fr * 6 + nd5 m (edAt es k).to)) (edAt es k).most)) := Lib.hid rfl
          obtain ⟨x, hx⟩ : ∃ x, edAt es k = x := ⟨_, rfl⟩
          rw [hx] at x0 x1 x2 x3 hnd HED
          clear hx
          obtain ⟨fr, dt, bb, most⟩ := x
          simp only at x0 x1 x2 x3 hnd HED
          have N0 := Lib.hid (fun V => node_b m fr V hnd.1.1)
          have N1 := Lib.hid (fun V => node_b m dt V hnd.2.1)
          have hp : nd5 m fr < 6 := by unfold nd5; split <;> omega
          have hq : nd5 m dt < 6 := by unfold nd5; split <;> omega
          obtain ⟨p, hp'⟩ : ∃ p, nd5 m fr = p := ⟨_, rfl⟩
          obtain ⟨q, hq'⟩ : ∃ q, nd5 m dt = q := ⟨_, rfl⟩
          rw [hp'] at N0 hp HED
          rw [hq'] at N1 hq HED
          clear hp' hq'
          go_upto_region 14 with (fail)
          go_name_world Z hZ
          have BZ := (al1 hZ).1
          have HEZ : Hid (Blk Z wr.heap.size 123 #[.int .i64 fr, .int .i64 dt, .int .i64 bb, .int .i64 most]) := by rw [← hZ]; exact Lib.hid (Blk.new wr _ _)
          have HTZ := Lib.hid (HTs.out.below BZ HTs.out.lt)
          have hB2 := Lib.hid (HBs.out.trans (BZ.mono HBs.out.size))
          obtain ⟨ge, hge⟩ : ∃ g, wr.heap.size = g := ⟨_, rfl⟩
          rw [hge] at HEZ ⊢
          have hgt : w.heap.size < ge := by rw [← hge]; exact HTs.out.lt
          have cE := HEZ.out.cell
          have lE := HEZ.out.lt
          clear hZ BZ x0 x1 x2 x3 hge
          have hcq := fun p : Regrown => (bcell (below_regrown Z p.d p.os)).1
          refine wp_region_quiet_below (by kernel_rfl) (by kernel_rfl) ?_
          repeat (go_big_quiet_step ((go_at_call 63; first | (with_reducible exact Calls.regrown_of (N0.out _)) | (with_reducible exact Calls.regrown_of (N1.out _)))))
          refine wpQuiet_nil ?_
          intro wq hq
          obtain ⟨pq, hq⟩ := hq
          have hbq : Below Z.heap.size Z wq := by rw [hq]; exact below_regrown _ _ _
          clear hq hcq pq
          obtain ⟨hcq, hfq⟩ := bcell hbq
          have zq := hbq.size
          have HEQ := Lib.hid (HEZ.out.below hbq HEZ.out.lt)
          have HTQ := Lib.hid (HTZ.out.below hbq HTZ.out.lt)
          have HBQ := Lib.hid (hB2.out.trans (hbq.mono hB2.out.size))
          obtain ⟨cur, hcur⟩ : ∃ x, iAt T1 (p * 6 + q) = x := ⟨_, rfl⟩
          have HSS : Hid (wq.drew.cell? ⟨w.heap.size, p * 6 + q, none⟩ = some (.int .i64 cur) ∧ wq.drew.cell? ⟨ge, 3, none⟩ = some (.int .i64 most)) := Lib.hid ⟨(HTQ.out.cell _).trans ((tbV_get (by rw [HL1.out]; omega)).trans (by rw [hcur])), HEQ.out.cell 3⟩
          rw [hcur] at HED
          clear hcq hfq hbq cE lE hcur
          go_upto_region 15 with (fail)
          have hS := HSS.out
          refine wp_region_L (by kernel_rfl) (fun W' => W'.cell? ⟨w.heap.size, p * 6 + q, none⟩ = some (.int .i64 cur) ∧ W'.cell? ⟨ge, 3, none⟩ = some (.int .i64 most)) 8 ?_
          refine wpAnyL_take (i := 0) (v := ?_) rfl (by kernel_rfl) (by kernel_rfl) (by kernel_rfl) (by kernel_rfl) (fun _ _ _ h => h) hS (Or.inl ⟨by rfl, ?_⟩) ?_
          rotate_left 1
          · intro w9 hw9
            obtain ⟨k0, k1⟩ := hw9
            go_simp
            try with_reducible rfl
          try simp only [List.getElem_toArray, List.getElem_cons_zero, Act.put, List.setIfInBounds_toArray, List.set_cons_zero, List.set_cons_succ]
          refine wpAnyL_take (i := 1) (v := ?_) rfl (by kernel_rfl) (by kernel_rfl) (by kernel_rfl) (by kernel_rfl) (fun _ _ _ h => h) hS (Or.inl ⟨by rfl, ?_⟩) ?_
          rotate_left 1
          · intro w9 hw9
            obtain ⟨k0, k1⟩ := hw9
            go_simp
            try with_reducible rfl
          try simp only [List.getElem_toArray, List.getElem_cons_zero, List.getElem_cons_succ, Act.put, List.setIfInBounds_toArray, List.set_cons_zero, List.set_cons_succ]
          refine wpAnyL_take (i := 2) (v := ?_) rfl (by kernel_rfl) (by kernel_rfl) (by kernel_rfl) (by kernel_rfl) (fun _ _ _ h => h) hS (Or.inl ⟨by rfl, ?_⟩) ?_
          rotate_left 1
          · intro w9 hw9
            obtain ⟨k0, k1⟩ := hw9
            go_simp
            try with_reducible rfl
          try simp only [List.getElem_toArray, List.getElem_cons_zero, List.getElem_cons_succ, Act.put, List.setIfInBounds_toArray, List.set_cons_zero, List.set_cons_succ]
          refine wpAnyL_take (i := 3) (v := ?_) rfl (by kernel_rfl) (by kernel_rfl) (by kernel_rfl) (by kernel_rfl) (fun _ _ _ h => h) hS (Or.inl ⟨by rfl, ?_⟩) ?_
          rotate_left 1
          · intro w9 hw9
            obtain ⟨k0, k1⟩ := hw9
            go_simp
            try with_reducible rfl
          try simp only [List.getElem_toArray, List.getElem_cons_zero, List.getElem_cons_succ, Act.put, List.setIfInBounds_toArray, List.set_cons_zero, List.set_cons_succ]
          refine wpAnyL_take (i := 4) (v := ?_) rfl (by kernel_rfl) (by kernel_rfl) (by kernel_rfl) (by kernel_rfl) (fun _ _ _ h => h) hS (Or.inl ⟨by rfl, ?_⟩) ?_
          rotate_left 1
          · intro w9 hw9
            obtain ⟨k0, k1⟩ := hw9
            go_simp
            try with_reducible rfl
          try simp only [List.getElem_toArray, List.getElem_cons_zero, List.getElem_cons_succ, Act.put, List.setIfInBounds_toArray, List.set_cons_zero, List.set_cons_succ]
          refine wpAnyL_take (i := 5) (v := ?_) rfl (by kernel_rfl) (by kernel_rfl) (by kernel_rfl) (by kernel_rfl) (fun _ _ _ h => h) hS (Or.inl ⟨by rfl, ?_⟩) ?_
          rotate_left 1
          · intro w9 hw9
            obtain ⟨k0, k1⟩ := hw9
            go_simp
            try with_reducible rfl
          try simp only [List.getElem_toArray, List.getElem_cons_zero, List.getElem_cons_succ, Act.put, List.setIfInBounds_toArray, List.set_cons_zero, List.set_cons_succ]
          refine wpAnyL_take (i := 6) (v := ?_) rfl (by kernel_rfl) (by kernel_rfl) (by kernel_rfl) (by kernel_rfl) (fun _ _ _ h => h) hS (Or.inl ⟨by rfl, ?_⟩) ?_
          rotate_left 1
          · intro w9 hw9
            obtain ⟨k0, k1⟩ := hw9
            go_simp
            try with_reducible rfl
          try simp only [List.getElem_toArray, List.getElem_cons_zero, List.getElem_cons_succ, Act.put, List.setIfInBounds_toArray, List.set_cons_zero, List.set_cons_succ]
          refine wpAnyL_take (i := 7) (v := ?_) rfl (by kernel_rfl) (by kernel_rfl) (by kernel_rfl) (by kernel_rfl) (fun _ _ _ h => h) hS (Or.inl ⟨by rfl, ?_⟩) ?_
          rotate_left 1
          · intro w9 hw9
            obtain ⟨k0, k1⟩ := hw9
            go_simp
            try with_reducible rfl
          try simp only [List.getElem_toArray, List.getElem_cons_zero, List.getElem_cons_succ, Act.put, List.setIfInBounds_toArray, List.set_cons_zero, List.set_cons_succ]
          refine wpAnyL_one (i := 8) (by kernel_rfl) rfl (fun K9 hK9 => ?_)
          have hc0 := hS.1
          have hf0 : wq.drew.frozen? ⟨w.heap.size, p * 6 + q, none⟩ = false := HTQ.out.frozen _
          go_simp
          refine hK9.out _ _ (fun h => absurd rfl h) (fun _ => ?_)
          refine wpAnyL_done (by kernel_rfl) ?_ _
          clear hK9 K9 hS hc0 hf0
          go_wp2_with fail
          go_roundw
          case rel =>
            refine ⟨k + 1, by omega, by go_num, Lib.hid (Below.drew (Below.setCell (p := ⟨w.heap.size, p * 6 + q, none⟩) HBQ.out (Nat.le_refl _) _)), ?_⟩
            show Hid (Blk _ _ _ (tbV (ed1 m es (itr (ed1 m es) T0 k) k)))
            rw [HT1.out, HED.out, ← tbV_set]
            exact Lib.hid (HTQ.out.set_ (p * 6 + q) _).drew
          case measure => simp [intOf]; omega
        · have hkE : k = ne := by omega
          have gB : decide ((k : Int) < ne) = false := decide_eq_false (by omega)
          have HTe : Hid (Blk wr w.heap.size 104 (tbV (itr (ed1 m es) in3 es.length))) := by rw [HEL.out, HT0'.out, ← hkE, HT1.out]; exact HTs
          have hz : (itr (ed1 m es) in3 es.length).length = 36 := by rw [itr_len (fun T k => ed1_len T k), in3_len]
          have HCT := HFF.out
          obtain ⟨R0, hR0⟩ : ∃ T, itr (ed1 m es) in3 es.length = T := ⟨_, rfl⟩
          rw [hR0] at HTe hz HCT
          replace HCT := Lib.hid HCT
          have HLR := Lib.hid hz
          clear hR0 hz HFF HTs HT1 HL1 HT0' HL0 hkE hk HEL
          have vm : IntKind.i64.wrap ((m : Int) + 1) = (m : Int) + 1 := IntWalk.i64_in _ (by omega)
          go_wp2_with fail
          go_loopw [59] (fun i (wr : World) => ∃ y : Nat, y ≤ m + 1 ∧ i = .int .i64 y ∧ Hid (Below w.heap.size w wr) ∧ Hid (Blk wr w.heap.size 104 (tbV (itr (fw3 m) R0 y)))) (fun i _ => m + 1 - (intOf i).toNat)
          case atStart => exact ⟨0, by omega, by simp, HBs, HTe⟩
          case round =>
            obtain ⟨y, hy, rfl, HBt, HTt⟩ := hrel
            obtain ⟨T1, hT1⟩ : ∃ T, itr (fw3 m) R0 y = T := ⟨_, rfl⟩
            have hl1 : T1.length = 36 := by rw [← hT1, itr_len (fun T k => fw3_len T k), HLR.out]
            rw [hT1] at HTt
            have HT1 := Lib.hid hT1
            have HL1 := Lib.hid hl1
            clear hT1 hl1
            by_cases hym : y < m + 1
            · have gy : decide ((y : Int) < (m : Int) + 1) = true := decide_eq_true (by omega)
              have vy : IntKind.i64.wrap ((y : Int) + 1) = (y : Int) + 1 := IntWalk.i64_in _ (by omega)
              go_wp2_with fail
              go_loopw [64] (fun i (wr : World) => ∃ a : Nat, a ≤ m + 1 ∧ i = .int .i64 a ∧ Hid (Below w.heap.size w wr) ∧ Hid (Blk wr w.heap.size 104 (tbV (itr (fw2 m y) T1 a)))) (fun i _ => m + 1 - (intOf i).toNat)
              case atStart => exact ⟨0, by omega, by simp, HBt, HTt⟩
              case round =>
                obtain ⟨a, ha, rfl, HBu, HTu⟩ := hrel
                obtain ⟨T2, hT2⟩ : ∃ T, itr (fw2 m y) T1 a = T := ⟨_, rfl⟩
                have hl2 : T2.length = 36 := by rw [← hT2, itr_len (fun T k => fw2_len T k), HL1.out]
                rw [hT2] at HTu
                have HT2 := Lib.hid hT2
                have HL2 := Lib.hid hl2
                clear hT2 hl2
                by_cases ham : a < m + 1
                · have ga : decide ((a : Int) < (m : Int) + 1) = true := decide_eq_true (by omega)
                  have va : IntKind.i64.wrap ((a : Int) + 1) = (a : Int) + 1 := IntWalk.i64_in _ (by omega)
                  go_wp2_with fail
                  go_loopw [69] (fun i (wr : World) => ∃ d : Nat, d ≤ m + 1 ∧ i = .int .i64 d ∧ Hid (Below w.heap.size w wr) ∧ Hid (Blk wr w.heap.size 104 (tbV (itr (fw1 y a) T2 d)))) (fun i _ => m + 1 - (intOf i).toNat)
                  case atStart => exact ⟨0, by omega, by simp, HBu, HTu⟩
                  case round =>
                    obtain ⟨d, hd, rfl, HBv, HTv⟩ := hrel
                    obtain ⟨T3, hT3⟩ : ∃ T, itr (fw1 y a) T2 d = T := ⟨_, rfl⟩
                    have hl3 : T3.length = 36 := by rw [← hT3, itr_len (fun T k => fw1_len T k), HL2.out]
                    rw [hT3] at HTv
                    have HT3 := Lib.hid hT3
                    have HL3 := Lib.hid hl3
                    clear hT3 hl3
                    by_cases hdm : d < m + 1
                    · have gd : decide ((d : Int) < (m : Int) + 1) = true := decide_eq_true (by omega)
                      have vd : IntKind.i64.wrap ((d : Int) + 1) = (d : Int) + 1 := IntWalk.i64_in _ (by omega)
                      have hF1 : fw1 y a T3 d = if iAt T3 (a * 6 + y) < 1073741824 ∧ iAt T3 (y * 6 + d) < 1073741824 then T3.set (a * 6 + d) (min (iAt T3 (a * 6 + d)) (IntKind.i64.wrap (iAt T3 (a * 6 + y) + iAt T3 (y * 6 + d)))) else T3 := rfl
                      have y6 : y < 6 := by omega
                      have a6 : a < 6 := by omega
                      have d6 : d < 6 := by omega
                      have y6i : (y : Int) < 6 := by omega
                      have a6i : (a : Int) < 6 := by omega
                      have d6i : (d : Int) < 6 := by omega
                      have c1 := (HTv.out.cell (a * 6 + y)).trans (tbV_get (by rw [HL3.out]; omega))
                      have c2 := (HTv.out.cell (y * 6 + d)).trans (tbV_get (by rw [HL3.out]; omega))
                      have c3 := (HTv.out.cell (a * 6 + d)).trans (tbV_get (by rw [HL3.out]; omega))
                      obtain ⟨u, hu⟩ : ∃ x, iAt T3 (a * 6 + y) = x := ⟨_, rfl⟩
                      obtain ⟨v, hv⟩ : ∃ x, iAt T3 (y * 6 + d) = x := ⟨_, rfl⟩
                      obtain ⟨x, hx⟩ : ∃ x, iAt T3 (a * 6 + d) = x := ⟨_, rfl⟩
                      rw [hu] at c1 hF1
                      rw [hv] at c2 hF1
                      rw [hx] at c3 hF1
                      clear hu hv hx
                      by_cases hu : u < 1073741824
                      · have hub : decide (u < 1073741824) = true := decide_eq_true hu
                        by_cases hv : v < 1073741824
                        · have hvb : decide (v < 1073741824) = true := decide_eq_true hv
                          rw [if_pos ⟨hu, hv⟩] at hF1
                          obtain ⟨sm, hsm⟩ : ∃ s, IntKind.i64.wrap (u + v) = s := ⟨_, rfl⟩
                          rw [hsm] at hF1
                          have HF1 := Lib.hid hF1
                          have HSS := Lib.hid (And.intro c1 (And.intro c2 c3))
                          clear hF1
                          go_upto_region 27 with (fail)
                          have hS : wr.drew.cell? ⟨w.heap.size, a * 6 + y, none⟩ = some (.int .i64 u) ∧ wr.drew.cell? ⟨w.heap.size, y * 6 + d, none⟩ = some (.int .i64 v) ∧ wr.drew.cell? ⟨w.heap.size, a * 6 + d, none⟩ = some (.int .i64 x) := HSS.out
                          clear c1 c2 c3
                          refine wp_region_L (by kernel_rfl) (fun W' => W'.cell? ⟨w.heap.size, a * 6 + y, none⟩ = some (.int .i64 u) ∧ W'.cell? ⟨w.heap.size, y * 6 + d, none⟩ = some (.int .i64 v) ∧ W'.cell? ⟨w.heap.size, a * 6 + d, none⟩ = some (.int .i64 x)) 21 ?_
                          refine wpAnyL_take (i := 0) (v := ?_) rfl (by kernel_rfl) (by kernel_rfl) (by kernel_rfl) (by kernel_rfl) (fun _ _ _ h => h) hS (Or.inl ⟨by rfl, ?_⟩) ?_
                          rotate_left 1
                          · intro w9 hw9
                            obtain ⟨k0, k1, k2⟩ := hw9
                            go_simp
                            try with_reducible rfl
                          try simp only [List.getElem_toArray, List.getElem_cons_zero, Act.put, List.setIfInBounds_toArray, List.set_cons_zero, List.set_cons_succ]
                          refine wpAnyL_take (i := 1) (v := ?_) rfl (by kernel_rfl) (by kernel_rfl) (by kernel_rfl) (by kernel_rfl) (fun _ _ _ h => h) hS (Or.inl ⟨by rfl, ?_⟩) ?_
                          rotate_left 1
                          · intro w9 hw9
                            obtain ⟨k0, k1, k2⟩ := hw9
                            go_simp
                            try with_reducible rfl
                          try simp only [List.getElem_toArray, List.getElem_cons_zero, List.getElem_cons_succ, Act.put, List.setIfInBounds_toArray, List.set_cons_zero, List.set_cons_succ]
                          refine wpAnyL_take (i := 2) (v := ?_) rfl (by kernel_rfl) (by kernel_rfl) (by kernel_rfl) (by kernel_rfl) (fun _ _ _ h => h) hS (Or.inl ⟨by rfl, ?_⟩) ?_
                          rotate_left 1
                          · intro w9 hw9
                            obtain ⟨k0, k1, k2⟩ := hw9
                            go_simp
                            try with_reducible rfl
                          try simp only [List.getElem_toArray, List.getElem_cons_zero, List.getElem_cons_succ, Act.put, List.setIfInBounds_toArray, List.set_cons_zero, List.set_cons_succ]
                          refine wpAnyL_take (i := 3) (v := ?_) rfl (by kernel_rfl) (by kernel_rfl) (by kernel_rfl) (by kernel_rfl) (fun _ _ _ h => h) hS (Or.inl ⟨by rfl, ?_⟩) ?_
                          rotate_left 1
                          · intro w9 hw9
                            obtain ⟨k0, k1, k2⟩ := hw9
                            go_simp
                            try with_reducible rfl
                          try simp only [List.getElem_toArray, List.getElem_cons_zero, List.getElem_cons_succ, Act.put, List.setIfInBounds_toArray, List.set_cons_zero, List.set_cons_succ]
                          refine wpAnyL_take (i := 4) (v := ?_) rfl (by kernel_rfl) (by kernel_rfl) (by kernel_rfl) (by kernel_rfl) (fun _ _ _ h => h) hS (Or.inl ⟨by rfl, ?_⟩) ?_
                          rotate_left 1
                          · intro w9 hw9
                            obtain ⟨k0, k1, k2⟩ := hw9
                            go_simp
                            try with_reducible rfl
                          try simp only [List.getElem_toArray, List.getElem_cons_zero, List.getElem_cons_succ, Act.put, List.setIfInBounds_toArray, List.set_cons_zero, List.set_cons_succ]
                          refine wpAnyL_take (i := 5) (v := ?_) rfl (by kernel_rfl) (by kernel_rfl) (by kernel_rfl) (by kernel_rfl) (fun _ _ _ h => h) hS (Or.inl ⟨by rfl, ?_⟩) ?_
                          rotate_left 1
                          · intro w9 hw9
                            obtain ⟨k0, k1, k2⟩ := hw9
                            go_simp
                            try with_reducible rfl
                          try simp only [List.getElem_toArray, List.getElem_cons_zero, List.getElem_cons_succ, Act.put, List.setIfInBounds_toArray, List.set_cons_zero, List.set_cons_succ]
                          refine wpAnyL_take (i := 6) (v := ?_) rfl (by kernel_rfl) (by kernel_rfl) (by kernel_rfl) (by kernel_rfl) (fun _ _ _ h => h) hS (Or.inl ⟨by rfl, ?_⟩) ?_
                          rotate_left 1
                          · intro w9 hw9
                            obtain ⟨k0, k1, k2⟩ := hw9
                            go_simp
                            try with_reducible rfl
                          try simp only [List.getElem_toArray, List.getElem_cons_zero, List.getElem_cons_succ, Act.put, List.setIfInBounds_toArray, List.set_cons_zero, List.set_cons_succ]
                          refine wpAnyL_take (i := 7) (v := ?_) rfl (by kernel_rfl) (by kernel_rfl) (by kernel_rfl) (by kernel_rfl) (fun _ _ _ h => h) hS (Or.inl ⟨by rfl, ?_⟩) ?_
                          rotate_left 1
                          · intro w9 hw9
                            obtain ⟨k0, k1, k2⟩ := hw9
                            go_simp
                            try with_reducible rfl
                          try simp only [List.getElem_toArray, List.getElem_cons_zero, List.getElem_cons_succ, Act.put, List.setIfInBounds_toArray, List.set_cons_zero, List.set_cons_succ]
                          refine wpAnyL_take (i := 8) (v := ?_) rfl (by kernel_rfl) (by kernel_rfl) (by kernel_rfl) (by kernel_rfl) (fun _ _ _ h => h) hS (Or.inl ⟨by rfl, ?_⟩) ?_
                          rotate_left 1
                          · intro w9 hw9
                            obtain ⟨k0, k1, k2⟩ := hw9
                            go_simp
                            try with_reducible rfl
                          try simp only [List.getElem_toArray, List.getElem_cons_zero, List.getElem_cons_succ, Act.put, List.setIfInBounds_toArray, List.set_cons_zero, List.set_cons_succ]
                          refine wpAnyL_take (i := 9) (v := ?_) rfl (by kernel_rfl) (by kernel_rfl) (by kernel_rfl) (by kernel_rfl) (fun _ _ _ h => h) hS (Or.inl ⟨by rfl, ?_⟩) ?_
                          rotate_left 1
                          · intro w9 hw9
                            obtain ⟨k0, k1, k2⟩ := hw9
                            go_simp
                            try with_reducible rfl
                          try simp only [List.getElem_toArray, List.getElem_cons_zero, List.getElem_cons_succ, Act.put, List.setIfInBounds_toArray, List.set_cons_zero, List.set_cons_succ]
                          refine wpAnyL_take (i := 10) (v := ?_) rfl (by kernel_rfl) (by kernel_rfl) (by kernel_rfl) (by kernel_rfl) (fun _ _ _ h => h) hS (Or.inl ⟨by rfl, ?_⟩) ?_
                          rotate_left 1
                          · intro w9 hw9
                            obtain ⟨k0, k1, k2⟩ := hw9
                            go_simp
                            try with_reducible rfl
                          try simp only [List.getElem_toArray, List.getElem_cons_zero, List.getElem_cons_succ, Act.put, List.setIfInBounds_toArray, List.set_cons_zero, List.set_cons_succ]
                          refine wpAnyL_take (i := 11) (v := ?_) rfl (by kernel_rfl) (by kernel_rfl) (by kernel_rfl) (by kernel_rfl) (fun _ _ _ h => h) hS (Or.inl ⟨by rfl, ?_⟩) ?_
                          rotate_left 1
                          · intro w9 hw9
                            obtain ⟨k0, k1, k2⟩ := hw9
                            go_simp
                            try with_reducible rfl
                          try simp only [List.getElem_toArray, List.getElem_cons_zero, List.getElem_cons_succ, Act.put, List.setIfInBounds_toArray, List.set_cons_zero, List.set_cons_succ]
                          refine wpAnyL_take (i := 12) (v := ?_) rfl (by kernel_rfl) (by kernel_rfl) (by kernel_rfl) (by kernel_rfl) (fun _ _ _ h => h) hS (Or.inl ⟨by rfl, ?_⟩) ?_
                          rotate_left 1
                          · intro w9 hw9
                            obtain ⟨k0, k1, k2⟩ := hw9
                            go_simp
                            try with_reducible rfl
                          try simp only [List.getElem_toArray, List.getElem_cons_zero, List.getElem_cons_succ, Act.put, List.setIfInBounds_toArray, List.set_cons_zero, List.set_cons_succ]
                          refine wpAnyL_take (i := 13) (v := ?_) rfl (by kernel_rfl) (by kernel_rfl) (by kernel_rfl) (by kernel_rfl) (fun _ _ _ h => h) hS (Or.inl ⟨by rfl, ?_⟩) ?_
                          rotate_left 1
                          · intro w9 hw9
                            obtain ⟨k0, k1, k2⟩ := hw9
                            go_simp
                            try with_reducible rfl
                          try simp only [List.getElem_toArray, List.getElem_cons_zero, List.getElem_cons_succ, Act.put, List.setIfInBounds_toArray, List.set_cons_zero, List.set_cons_succ]
                          refine wpAnyL_take (i := 14) (v := ?_) rfl (by kernel_rfl) (by kernel_rfl) (by kernel_rfl) (by kernel_rfl) (fun _ _ _ h => h) hS (Or.inl ⟨by rfl, ?_⟩) ?_
                          rotate_left 1
                          · intro w9 hw9
                            obtain ⟨k0, k1, k2⟩ := hw9
                            go_simp
                            try with_reducible rfl
                          try simp only [List.getElem_toArray, List.getElem_cons_zero, List.getElem_cons_succ, Act.put, List.setIfInBounds_toArray, List.set_cons_zero, List.set_cons_succ]
                          refine wpAnyL_take (i := 15) (v := ?_) rfl (by kernel_rfl) (by kernel_rfl) (by kernel_rfl) (by kernel_rfl) (fun _ _ _ h => h) hS (Or.inl ⟨by rfl, ?_⟩) ?_
                          rotate_left 1
                          · intro w9 hw9
                            obtain ⟨k0, k1, k2⟩ := hw9
                            go_simp
                            try with_reducible rfl
                          try simp only [List.getElem_toArray, List.getElem_cons_zero, List.getElem_cons_succ, Act.put, List.setIfInBounds_toArray, List.set_cons_zero, List.set_cons_succ]
                          refine wpAnyL_take (i := 16) (v := ?_) rfl (by kernel_rfl) (by kernel_rfl) (by kernel_rfl) (by kernel_rfl) (fun _ _ _ h => h) hS (Or.inl ⟨by rfl, ?_⟩) ?_
                          rotate_left 1
                          · intro w9 hw9
                            obtain ⟨k0, k1, k2⟩ := hw9
                            go_simp
                            try with_reducible rfl
                          try simp only [List.getElem_toArray, List.getElem_cons_zero, List.getElem_cons_succ, Act.put, List.setIfInBounds_toArray, List.set_cons_zero, List.set_cons_succ]
                          refine wpAnyL_take (i := 17) (v := ?_) rfl (by kernel_rfl) (by kernel_rfl) (by kernel_rfl) (by kernel_rfl) (fun _ _ _ h => h) hS (Or.inl ⟨by rfl, ?_⟩) ?_
                          rotate_left 1
                          · intro w9 hw9
                            obtain ⟨k0, k1, k2⟩ := hw9
                            go_simp
                            try with_reducible rfl
                          try simp only [List.getElem_toArray, List.getElem_cons_zero, List.getElem_cons_succ, Act.put, List.setIfInBounds_toArray, List.set_cons_zero, List.set_cons_succ]
                          refine wpAnyL_take (i := 18) (v := ?_) rfl (by kernel_rfl) (by kernel_rfl) (by kernel_rfl) (by kernel_rfl) (fun _ _ _ h => h) hS (Or.inl ⟨by rfl, ?_⟩) ?_
                          rotate_left 1
                          · intro w9 hw9
                            obtain ⟨k0, k1, k2⟩ := hw9
                            go_simp
                            try with_reducible rfl
                          try simp only [List.getElem_toArray, List.getElem_cons_zero, List.getElem_cons_succ, Act.put, List.setIfInBounds_toArray, List.set_cons_zero, List.set_cons_succ]
                          refine wpAnyL_one (i := 19) (by kernel_rfl) rfl (fun K9 hK9 => ?_)
                          go_simp
                          refine hK9.out _ _ (fun _ => hS) (fun _ => ?_)
                          clear hK9 K9
                          try simp only [List.getElem_toArray, List.getElem_cons_zero, List.getElem_cons_succ, Act.put, List.setIfInBounds_toArray, List.set_cons_zero, List.set_cons_succ]
                          refine wpAnyL_take (i := 20) (v := ?_) rfl (by kernel_rfl) (by kernel_rfl) (by kernel_rfl) (by kernel_rfl) (fun _ _ _ h => h) hS (Or.inl ⟨by rfl, ?_⟩) ?_
                          rotate_left 1
                          · intro w9 hw9
                            obtain ⟨k0, k1, k2⟩ := hw9
                            go_simp
                            try with_reducible rfl
                          try simp only [List.getElem_toArray, List.getElem_cons_zero, List.getElem_cons_succ, Act.put, List.setIfInBounds_toArray, List.set_cons_zero, List.set_cons_succ]
                          refine wpAnyL_one (i := 21) (by kernel_rfl) rfl (fun K9 hK9 => ?_)
                          have hc0 := hS.2.2
                          have hf0 : wr.drew.frozen? ⟨w.heap.size, a * 6 + d, none⟩ = false := HTv.out.frozen _
                          go_simp
                          refine hK9.out _ _ (fun h => absurd rfl h) (fun _ => ?_)
                          refine wpAnyL_done (by kernel_rfl) ?_ _
                          clear hK9 K9 hS hc0 hf0
                          go_wp2_with fail
                          go_roundw
                          case rel =>
                            refine ⟨d + 1, by omega, by go_num, Lib.hid (Below.drew (Below.setCell (p := ⟨w.heap.size, a * 6 + d, none⟩) HBv.out (Nat.le_refl _) _)), ?_⟩
                            show Hid (Blk _ _ _ (tbV (fw1 y a (itr (fw1 y a) T2 d) d)))
                            rw [HT3.out, HF1.out, ← tbV_set]
                            exact Lib.hid (HTv.out.set_ (a * 6 + d) _).drew
                          case measure => simp [intOf]; omega
                        · have hvb : decide (v < 1073741824) = false := decide_eq_false hv
                          rw [if_neg (fun h => hv h.2)] at hF1
                          have HF1 := Lib.hid hF1
                          clear hF1
                          go_wp2_with fail
                          go_roundw
                          case rel => exact ⟨d + 1, by omega, by go_num, HBv, by show Hid (Blk _ _ _ (tbV (fw1 y a (itr (fw1 y a) T2 d) d))); rw [HT3.out, HF1.out]; exact HTv⟩
                          case measure => simp [intOf]; omega
                      · have hub : decide (u < 1073741824) = false := decide_eq_false hu
                        rw [if_neg (fun h => hu h.1)] at hF1
                        have HF1 := Lib.hid hF1
                        clear hF1
                        go_wp2_with fail
                        go_roundw
                        case rel => exact ⟨d + 1, by omega, by go_num, HBv, by show Hid (Blk _ _ _ (tbV (fw1 y a (itr (fw1 y a) T2 d) d))); rw [HT3.out, HF1.out]; exact HTv⟩
                        case measure => simp [intOf]; omega
                    · have hdE : d = m + 1 := by omega
                      have gd : decide ((d : Int) < (m : Int) + 1) = false := decide_eq_false (by omega)
                      go_wp2_with fail
                      go_roundw
                      case rel => exact ⟨a + 1, by omega, by go_num, HBv, by show Hid (Blk _ _ _ (tbV (fw2 m y (itr (fw2 m y) T1 a) a))); rw [HT2.out]; show Hid (Blk _ _ _ (tbV (itr (fw1 y a) T2 (m + 1)))); rw [← hdE, HT3.out]; exact HTv⟩
                      case measure => simp [intOf]; omega
                · have haE : a = m + 1 := by omega
                  have ga : decide ((a : Int) < (m : Int) + 1) = false := decide_eq_false (by omega)
                  go_wp2_with fail
                  go_roundw
                  case rel => exact ⟨y + 1, by omega, by go_num, HBu, by show Hid (Blk _ _ _ (tbV (fw3 m (itr (fw3 m) R0 y) y))); rw [HT1.out]; show Hid (Blk _ _ _ (tbV (itr (fw2 m y) T1 (m + 1)))); rw [← haE, HT2.out]; exact HTu⟩
                  case measure => simp [intOf]; omega
            · have hyE : y = m + 1 := by omega
              have gy : decide ((y : Int) < (m : Int) + 1) = false := decide_eq_false (by omega)
              have HTf : Hid (Blk wr w.heap.size 104 (tbV F)) := by rw [← HCT.out, ← hyE, HT1.out]; exact HTt
              have hsz : Hid ((Try.prog.info? 104).map (·.size) = some (tbV F).size) := Lib.hid (by rw [show (tbV F).size = 36 by unfold tbV; simp; exact HFL.out]; kernel_rfl)
              have hone : Hid ((tbV F).all (·.oneCell') = true) := Lib.hid (by unfold tbV; simp [Value.oneCell'])
              have hld := Lib.hid (run_loadVar_row (P := Try.prog) wr w.heap.size 104 104 (tbV F) (0, 0) _ HTf.out Try.underlying104 rfl hsz.out)
              clear HTt HT1 HL1 HCT HLR hyE
              go_wp2_with fail
              go_loopw [112] (fun i (wx : World) => ∃ j : Nat, j ≤ m + 1 ∧ i = .int .i64 j ∧ wx = wr ∧ Hid (∀ a, a < j → (!decide (iAt F (a * 6 + a) < 0)) = true)) (fun i _ => m + 1 - (intOf i).toNat)
              case atStart => exact ⟨0, by omega, by simp, rfl, Lib.hid (fun a ha => absurd ha (by omega))⟩
              case round =>
                obtain ⟨j, hj, rfl, rfl, HJ⟩ := hrel
                by_cases hjm : j < m + 1
                · have gj : decide ((j : Int) < (m : Int) + 1) = true := decide_eq_true (by omega)
                  have vj : IntKind.i64.wrap ((j : Int) + 1) = (j : Int) + 1 := IntWalk.i64_in _ (by omega)
                  have j6i : (j : Int) < 6 := by omega
                  have c0 := (HTf.out.cell (j * 6 + j)).trans (tbV_get (by rw [HFL.out]; omega))
                  obtain ⟨x, hx⟩ : ∃ x, iAt F (j * 6 + j) = x := ⟨_, rfl⟩
                  rw [hx] at c0
                  have HX := Lib.hid hx
                  clear hx
                  by_cases hx0 : x < 0
                  · have hxb : decide (x < 0) = true := decide_eq_true hx0
                    have hcf : Hid (C = false) := Lib.hid (by rw [← HCC.out]; exact allN_no hjm (by rw [HX.out, hxb]; rfl))
                    go_upto_region 35 with (fail)
                    clear c0
                    go_wp2_with (first | (refine wpList_load_row rfl 104 _ rfl w.heap.size rfl 104 (tbV F) (0, 0) _ HTf.out Try.underlying104 rfl hsz.out ?_) | (refine wpList_store_row rfl 104 _ _ rfl w.heap.size (tbV F) rfl rfl 104 (tbV F) HTf.out hsz.out rfl hone.out ?_; rw [setRow_self _ _ _ _ _ HTf.out]))
                    rw [hcf.out]
                    exact bodyPost_ret (v := .tuple #[.agg (tbV F), .bool false]) (by simp [results, Try.results51, asAddr, hld.out]) rfl ⟨rfl, HBt.out⟩
                  · have hxb : decide (x < 0) = false := decide_eq_false hx0
                    go_wp2_with fail
                    go_roundw
                    case rel =>
                      refine ⟨j + 1, by omega, by go_num, trivial, Lib.hid (fun a ha => ?_)⟩
                      rcases Nat.lt_succ_iff_lt_or_eq.1 ha with h | rfl
                      · exact HJ.out a h
                      · rw [HX.out, hxb]; rfl
                    case measure => simp [intOf]; omega
                · have gj : decide ((j : Int) < (m : Int) + 1) = false := decide_eq_false (by omega)
                  have hcf : Hid (C = true) := Lib.hid (by rw [← HCC.out]; exact allN_iff.2 (fun a ha => HJ.out a (by omega)))
                  go_upto_region 37 with (fail)
                  go_wp2_with (first | (refine wpList_load_row rfl 104 _ rfl w.heap.size rfl 104 (tbV F) (0, 0) _ HTf.out Try.underlying104 rfl hsz.out ?_) | (refine wpList_store_row rfl 104 _ _ rfl w.heap.size (tbV F) rfl rfl 104 (tbV F) HTf.out hsz.out rfl hone.out ?_; rw [setRow_self _ _ _ _ _ HTf.out]))
                  rw [hcf.out]
                  exact bodyPost_ret (v := .tuple #[.agg (tbV F), .bool true]) (by simp [results, Try.results51, asAddr, hld.out]) rfl ⟨rfl, HBt.out⟩

end Go.Proofs.Ytcinhibmohkeiaa
