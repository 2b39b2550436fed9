/- The specification's rods (layer 4), walked: all lengths of a rod in some truths. -/
import Derived.Test.YtmmgkmdfecnkdaaQa35
import Derived.Test.YtmmgkmdfecnkdaaQa05
import Derived.Shelf.Abstract
import Derived.Laws.EntriesVeiled
import Derived.Handy
import Derived.Deep.DrawnRows
import Derived.Deep.DeepCutAuto
namespace Go.Proofs.Ytmmgkmdfecnkdaa
open Go.RowKit
open Go.Sort (grow)
set_option linter.unusedVariables false
set_option linter.unusedSimpArgs false

/-- the lengths of one rod in the first k truths -/
def rdK4 (ts : List (Int × Int × W4)) (q k : Nat) : List Int := (List.range k).map fun j => (tuAt ts j).2.2.at_ q
theorem rdK4_len (ts : List (Int × Int × W4)) (q k : Nat) : (rdK4 ts q k).length = k := by simp [rdK4]
theorem rdK4_succ (ts : List (Int × Int × W4)) (q k : Nat) : rdK4 ts q (k + 1) = rdK4 ts q k ++ [(tuAt ts k).2.2.at_ q] := by
  unfold rdK4
  rw [List.range_succ, List.map_append]; rfl
theorem rdK4_full (ts : List (Int × Int × W4)) (q : Nat) : rdK4 ts q ts.length = ts.map fun t => t.2.2.at_ q := by
  unfold rdK4 tuAt
  refine List.ext_getElem (by simp) fun i h1 h2 => ?_
  simp at h1 h2
  simp [h1]
set_option maxRecDepth 100000 in
set_option maxHeartbeats 1600000 in
theorem refrods4_c (Ar : Option Addr) (nr cr : Nat) (Ad : Option Addr) (nd cd : Nat) (p : P4) (LA : Option Addr) (n lc : Nat) (hs : List Th4) (ts : List (Int × Int × W4)) (q : Nat) (w : World) (ok : Ok4 nr nd p) (HM : MemP Ar nr Ad nd p w) (HT : ThsAt nr w LA n hs ts) (hn : n ≤ 90000) (hq : q < nr) :
    Calls Try.prog 49 #[.agg #[.int .i64 p.ir, .int .i64 p.glo, .int .i64 p.ghi, .slice Ar nr cr, .slice Ad nd cd, .int .i64 p.wr], .slice LA n lc, .int .i64 q] w fun e w' =>
      ∃ B d, e = .returned (.slice B (srt4 (rdK4 ts q n) n ((roAt p.rods q).lg - (roAt p.rods q).we) (roAt p.rods q).lg).length d) ∧ IntsAt w' B (srt4 (rdK4 ts q n) n ((roAt p.rods q).lg - (roAt p.rods q).we) (roAt p.rods q).lg).length (srt4 (rdK4 ts q n) n ((roAt p.rods q).lg - (roAt p.rods q).we) (roAt p.rods q).lg) ∧ Below w.heap.size w w' := by
  have hro := ok.ro q hq
  have HMI := Lib.hid HM
  have HTI := Lib.hid HT
  clear HM HT ok
  obtain ⟨ir, glo, ghi, wrg, rods, res⟩ := p
  simp only at HMI hro ⊢
  obtain ⟨⟨lg, we, gr⟩, hy⟩ : ∃ y, roAt rods q = y := ⟨_, rfl⟩
  rw [hy] at hro ⊢
  simp only at hro ⊢
  have HY := Lib.hid hy
  clear hy
  have HSO := Lib.hid (fun A c V (H : IntsAt V A n (rdK4 ts q n)) => refSorted4_c A n c (rdK4 ts q n) (lg - we) lg V (by omega) H (by omega) (by omega) (by omega))
  go_enter Try.func49, Try.ntmps49
  go_upto_region 2 with (fail)
  go_name_world X hX
  have BX : Below w.heap.size w X := (al1 hX).1
  have HPX : Hid (Blk X w.heap.size 27 #[.int .i64 ir, .int .i64 glo, .int .i64 ghi, .slice Ar nr cr, .slice Ad nd cd, .int .i64 wrg]) := by rw [← hX]; exact Lib.hid (Blk.new w _ _)
  have lX := HPX.out.lt
  clear hX
  go_wp2_with fail
  go_loopw [7, 8] (fun v i (wr : World) => ∃ k : Nat, k ≤ n ∧ i = .int .i64 k ∧ wr.ownsRow X.heap.size 3 1 v k ((rdK4 ts q k).flatMap encI) ∧ Below X.heap.size X wr) (fun _ i _ => n - (intOf i).toNat)
  case atStart => exact ⟨0, by omega, by simp, World.ownsRow_nil X X.heap.size _ 1, Below.refl _ _⟩
  case round =>
    obtain ⟨k, hk, rfl, ho, hb⟩ := hrel
    have HO := Lib.hid ho
    have zb := hb.size
    clear ho
    by_cases hlt : k < n
    · have hqB : decide ((k : Int) < n) = true := decide_eq_true (by omega)
      have i2 : decide ((q : Int) < nr) = true := decide_eq_true (by omega)
      have vk : IntKind.i64.wrap ((k : Int) + 1) = (k : Int) + 1 := IntWalk.i64_in _ (by omega)
      obtain ⟨b, off, B, c, eA, hbl, -, -, d2, hI⟩ := (HTI.out.later (BX.trans (hb.mono BX.size))).get hlt
      cases eA
      obtain ⟨bb, ob, eB, hbb, hc⟩ := hI.2 (by omega)
      cases eB
      have d3 := hc q hq 0 _ rfl
      rw [uL4_at hq, Nat.mul_one, Nat.add_zero] at d3
      have HSN := Lib.hid (rdK4_succ ts q k)
      obtain ⟨x, hx⟩ : ∃ x, (tuAt ts k).2.2.at_ q = x := ⟨_, rfl⟩
      rw [hx] at d3 HSN
      clear hx hc hI
      go_wp2_with (at_builtin; go_must (refine wpList_append_T _ (d := (0 : Int)) rfl (.tmp 15) (.tmp 24) _ rfl X.heap.size _ 1 8 int4E encI_len encI_one u7 u7.ownBlock k (rdK4 ts q k) rfl rfl ?ow _ 1 _ [x] rfl ?sl (by omega) ?sz ?_; (case ow => exact own_below HO.out (by (repeat first | with_reducible assumption | with_reducible exact Below.refl _ _ | (with_reducible refine Below.alloc ?_ ?side _; case side => (first | omega | (with_reducible exact Below.size (by assumption)) | (simp; done) | (simp; omega))) | (with_reducible refine Below.setCell ?_ ?side _; case side => (first | omega | (with_reducible exact Below.size (by assumption)) | (simp; done) | (simp; omega))) | with_reducible refine Below.drew ?_ | with_reducible refine below_drewN ?_ _ | (with_reducible refine below_step (by assumption) ?side ?_; case side => (first | omega | (with_reducible exact Below.size (by assumption)) | (simp; done) | (simp; omega)))))); (case sl => exact sl_new encI_len (by first | rfl | simp) rfl rfl); (case sz => go_size); (rintro v8 w8 ho8 hg8 ha8); (have hb8 : Below X.heap.size wr w8 := Below.grown (by (repeat first | with_reducible assumption | with_reducible exact Below.refl _ _ | (with_reducible refine Below.alloc ?_ ?side _; case side => (first | omega | (with_reducible exact Below.size (by assumption)) | (simp; done) | (simp; omega))) | (with_reducible refine Below.setCell ?_ ?side _; case side => (first | omega | (with_reducible exact Below.size (by assumption)) | (simp; done) | (simp; omega))) | with_reducible refine Below.drew ?_ | with_reducible refine below_drewN ?_ _ | (with_reducible refine below_step (by assumption) ?side ?_; case side => (first | omega | (with_reducible exact Below.size (by assumption)) | (simp; done) | (simp; omega))))) hg8 (by go_size) (own_ge HO.out)); (have HO8 := Lib.hid ho8); (clear ho8 hg8 ha8)))
      go_roundw
      case rel => exact ⟨k + 1, by omega, by go_num, by show World.ownsRow _ _ _ _ _ _ _; rw [HSN.out]; exact HO8.out, hb.trans hb8⟩
      case measure => simp [intOf]; omega
    · obtain rfl : n = k := by omega
      have hqB : decide (((n : Nat) : Int) < n) = false := decide_eq_false (by omega)
      have i2 : decide ((q : Int) < nr) = true := decide_eq_true (by omega)
      have vs : IntKind.i64.wrap (lg - we) = lg - we := IntWalk.i64_in _ (by omega)
      obtain ⟨A5, c5, e5, -, hs5⟩ := SlAt.of_own (d := (0 : Int)) encI_len HO.out (rdK4_len _ _ _)
      subst e5
      have HS5 := Lib.hid (ints_iff.2 hs5)
      clear hs5
      obtain ⟨bb, ob, eB, hbb, d0, d1, -⟩ := (HMI.out.later (BX.trans (hb.mono BX.size))).hr.get hq
      cases eB
      rw [HY.out] at d0 d1
      simp only at d0 d1
      have hSS : ∀ W', Below wr.heap.size wr W' → (∀ j, W'.cell? ⟨w.heap.size, j, none⟩ = #[Value.int .i64 ir, .int .i64 glo, .int .i64 ghi, .slice (some ⟨bb, ob, none⟩) nr cr, .slice Ad nd cd, .int .i64 wrg][j]?) ∧ W'.cell? ⟨bb, ob + q * 3, none⟩ = some (.int .i64 lg) ∧ W'.cell? ⟨bb, ob + q * 3 + 1, none⟩ = some (.int .i64 we) := fun W' h => ⟨fun j => (h.cell (p := ⟨w.heap.size, j, none⟩) (Nat.lt_of_lt_of_le lX zb)).trans ((HPX.out.below hb lX).cell j), (h.cell (p := ⟨bb, ob + q * 3, none⟩) hbb).trans d0, (h.cell (p := ⟨bb, ob + q * 3 + 1, none⟩) hbb).trans d1⟩
      have HSS := Lib.hid hSS
      have T0 : Below wr.heap.size wr wr.drew := Below.drew (Below.refl _ _)
      have hS := HSS.out _ T0
      have HS6 := Lib.hid (HS5.out.later T0)
      clear hSS d0 d1
      go_upto_region 6 with (fail)
      refine wp_region_L (by kernel_rfl) (fun W' => (∀ j, W'.cell? ⟨w.heap.size, j, none⟩ = #[Value.int .i64 ir, .int .i64 glo, .int .i64 ghi, .slice (some ⟨bb, ob, none⟩) nr cr, .slice Ad nd cd, .int .i64 wrg][j]?) ∧ W'.cell? ⟨bb, ob + q * 3, none⟩ = some (.int .i64 lg) ∧ W'.cell? ⟨bb, ob + q * 3 + 1, none⟩ = some (.int .i64 we)) 21 ?_
      refine wpAnyL_take (i := 0) (v := ?_) rfl (by kernel_rfl) (by kernel_rfl) (by kernel_rfl) (by kernel_rfl) (fun _ _ _ h => h) hS (Or.inl ⟨by rfl, ?_⟩) ?_
      rotate_left 1
      · intro w9 k0
        obtain ⟨s0, s1, s2⟩ := k0
        go_simp
        try with_reducible rfl
      try simp only [List.getElem_toArray, List.getElem_cons_zero, Act.put, List.setIfInBounds_toArray, List.set_cons_zero, List.set_cons_succ]
      refine wpAnyL_take (i := 1) (v := ?_) rfl (by kernel_rfl) (by kernel_rfl) (by kernel_rfl) (by kernel_rfl) (fun _ _ _ h => h) hS (Or.inl ⟨by rfl, ?_⟩) ?_
      rotate_left 1
      · intro w9 k0
        obtain ⟨s0, s1, s2⟩ := k0
        go_simp
        try with_reducible rfl
      try simp only [List.getElem_toArray, List.getElem_cons_zero, List.getElem_cons_succ, Act.put, List.setIfInBounds_toArray, List.set_cons_zero, List.set_cons_succ]
      refine wpAnyL_take (i := 2) (v := ?_) rfl (by kernel_rfl) (by kernel_rfl) (by kernel_rfl) (by kernel_rfl) (fun _ _ _ h => h) hS (Or.inl ⟨by rfl, ?_⟩) ?_
      rotate_left 1
      · intro w9 k0
        obtain ⟨s0, s1, s2⟩ := k0
        go_simp
        try with_reducible rfl
      try simp only [List.getElem_toArray, List.getElem_cons_zero, List.getElem_cons_succ, Act.put, List.setIfInBounds_toArray, List.set_cons_zero, List.set_cons_succ]
      refine wpAnyL_take (i := 3) (v := ?_) rfl (by kernel_rfl) (by kernel_rfl) (by kernel_rfl) (by kernel_rfl) (fun _ _ _ h => h) hS (Or.inl ⟨by rfl, ?_⟩) ?_
      rotate_left 1
      · intro w9 k0
        obtain ⟨s0, s1, s2⟩ := k0
        go_simp
        try with_reducible rfl
      try simp only [List.getElem_toArray, List.getElem_cons_zero, List.getElem_cons_succ, Act.put, List.setIfInBounds_toArray, List.set_cons_zero, List.set_cons_succ]
      refine wpAnyL_take (i := 4) (v := ?_) rfl (by kernel_rfl) (by kernel_rfl) (by kernel_rfl) (by kernel_rfl) (fun _ _ _ h => h) hS (Or.inl ⟨by rfl, ?_⟩) ?_
      rotate_left 1
      · intro w9 k0
        obtain ⟨s0, s1, s2⟩ := k0
        go_simp
        try with_reducible rfl
      try simp only [List.getElem_toArray, List.getElem_cons_zero, List.getElem_cons_succ, Act.put, List.setIfInBounds_toArray, List.set_cons_zero, List.set_cons_succ]
      refine wpAnyL_take (i := 5) (v := ?_) rfl (by kernel_rfl) (by kernel_rfl) (by kernel_rfl) (by kernel_rfl) (fun _ _ _ h => h) hS (Or.inl ⟨by rfl, ?_⟩) ?_
      rotate_left 1
      · intro w9 k0
        obtain ⟨s0, s1, s2⟩ := k0
        go_simp
        try with_reducible rfl
      try simp only [List.getElem_toArray, List.getElem_cons_zero, List.getElem_cons_succ, Act.put, List.setIfInBounds_toArray, List.set_cons_zero, List.set_cons_succ]
      refine wpAnyL_take (i := 6) (v := ?_) rfl (by kernel_rfl) (by kernel_rfl) (by kernel_rfl) (by kernel_rfl) (fun _ _ _ h => h) hS (Or.inl ⟨by rfl, ?_⟩) ?_
      rotate_left 1
      · intro w9 k0
        obtain ⟨s0, s1, s2⟩ := k0
        go_simp
        try with_reducible rfl
      try simp only [List.getElem_toArray, List.getElem_cons_zero, List.getElem_cons_succ, Act.put, List.setIfInBounds_toArray, List.set_cons_zero, List.set_cons_succ]
      refine wpAnyL_take (i := 7) (v := ?_) rfl (by kernel_rfl) (by kernel_rfl) (by kernel_rfl) (by kernel_rfl) (fun _ _ _ h => h) hS (Or.inl ⟨by rfl, ?_⟩) ?_
      rotate_left 1
      · intro w9 k0
        obtain ⟨s0, s1, s2⟩ := k0
        go_simp
        try with_reducible rfl
      try simp only [List.getElem_toArray, List.getElem_cons_zero, List.getElem_cons_succ, Act.put, List.setIfInBounds_toArray, List.set_cons_zero, List.set_cons_succ]
      refine wpAnyL_take (i := 8) (v := ?_) rfl (by kernel_rfl) (by kernel_rfl) (by kernel_rfl) (by kernel_rfl) (fun _ _ _ h => h) hS (Or.inl ⟨by rfl, ?_⟩) ?_
      rotate_left 1
      · intro w9 k0
        obtain ⟨s0, s1, s2⟩ := k0
        go_simp
        try with_reducible rfl
      try simp only [List.getElem_toArray, List.getElem_cons_zero, List.getElem_cons_succ, Act.put, List.setIfInBounds_toArray, List.set_cons_zero, List.set_cons_succ]
      refine wpAnyL_take (i := 9) (v := ?_) rfl (by kernel_rfl) (by kernel_rfl) (by kernel_rfl) (by kernel_rfl) (fun _ _ _ h => h) hS (Or.inl ⟨by rfl, ?_⟩) ?_
      rotate_left 1
      · intro w9 k0
        obtain ⟨s0, s1, s2⟩ := k0
        go_simp
        try with_reducible rfl
      try simp only [List.getElem_toArray, List.getElem_cons_zero, List.getElem_cons_succ, Act.put, List.setIfInBounds_toArray, List.set_cons_zero, List.set_cons_succ]
      refine wpAnyL_take (i := 10) (v := ?_) rfl (by kernel_rfl) (by kernel_rfl) (by kernel_rfl) (by kernel_rfl) (fun _ _ _ h => h) hS (Or.inl ⟨by rfl, ?_⟩) ?_
      rotate_left 1
      · intro w9 k0
        obtain ⟨s0, s1, s2⟩ := k0
        go_simp
        try with_reducible rfl
      try simp only [List.getElem_toArray, List.getElem_cons_zero, List.getElem_cons_succ, Act.put, List.setIfInBounds_toArray, List.set_cons_zero, List.set_cons_succ]
      refine wpAnyL_take (i := 11) (v := ?_) rfl (by kernel_rfl) (by kernel_rfl) (by kernel_rfl) (by kernel_rfl) (fun _ _ _ h => h) hS (Or.inl ⟨by rfl, ?_⟩) ?_
      rotate_left 1
      · intro w9 k0
        obtain ⟨s0, s1, s2⟩ := k0
        go_simp
        try with_reducible rfl
      try simp only [List.getElem_toArray, List.getElem_cons_zero, List.getElem_cons_succ, Act.put, List.setIfInBounds_toArray, List.set_cons_zero, List.set_cons_succ]
      refine wpAnyL_take (i := 12) (v := ?_) rfl (by kernel_rfl) (by kernel_rfl) (by kernel_rfl) (by kernel_rfl) (fun _ _ _ h => h) hS (Or.inl ⟨by rfl, ?_⟩) ?_
      rotate_left 1
      · intro w9 k0
        obtain ⟨s0, s1, s2⟩ := k0
        go_simp
        try with_reducible rfl
      try simp only [List.getElem_toArray, List.getElem_cons_zero, List.getElem_cons_succ, Act.put, List.setIfInBounds_toArray, List.set_cons_zero, List.set_cons_succ]
      refine wpAnyL_take (i := 13) (v := ?_) rfl (by kernel_rfl) (by kernel_rfl) (by kernel_rfl) (by kernel_rfl) (fun _ _ _ h => h) hS (Or.inl ⟨by rfl, ?_⟩) ?_
      rotate_left 1
      · intro w9 k0
        obtain ⟨s0, s1, s2⟩ := k0
        go_simp
        try with_reducible rfl
      try simp only [List.getElem_toArray, List.getElem_cons_zero, List.getElem_cons_succ, Act.put, List.setIfInBounds_toArray, List.set_cons_zero, List.set_cons_succ]
      refine wpAnyL_take (i := 14) (v := ?_) rfl (by kernel_rfl) (by kernel_rfl) (by kernel_rfl) (by kernel_rfl) (fun _ _ _ h => h) hS (Or.inl ⟨by rfl, ?_⟩) ?_
      rotate_left 1
      · intro w9 k0
        obtain ⟨s0, s1, s2⟩ := k0
        go_simp
        try with_reducible rfl
      try simp only [List.getElem_toArray, List.getElem_cons_zero, List.getElem_cons_succ, Act.put, List.setIfInBounds_toArray, List.set_cons_zero, List.set_cons_succ]
      refine wpAnyL_take (i := 15) (v := ?_) rfl (by kernel_rfl) (by kernel_rfl) (by kernel_rfl) (by kernel_rfl) (fun _ _ _ h => h) hS (Or.inl ⟨by rfl, ?_⟩) ?_
      rotate_left 1
      · intro w9 k0
        obtain ⟨s0, s1, s2⟩ := k0
        go_simp
        try with_reducible rfl
      try simp only [List.getElem_toArray, List.getElem_cons_zero, List.getElem_cons_succ, Act.put, List.setIfInBounds_toArray, List.set_cons_zero, List.set_cons_succ]
      refine wpAnyL_take (i := 16) (v := ?_) rfl (by kernel_rfl) (by kernel_rfl) (by kernel_rfl) (by kernel_rfl) (fun _ _ _ h => h) hS (Or.inl ⟨by rfl, ?_⟩) ?_
      rotate_left 1
      · intro w9 k0
        obtain ⟨s0, s1, s2⟩ := k0
        go_simp
        try with_reducible rfl
      try simp only [List.getElem_toArray, List.getElem_cons_zero, List.getElem_cons_succ, Act.put, List.setIfInBounds_toArray, List.set_cons_zero, List.set_cons_succ]
      refine wpAnyL_take (i := 17) (v := ?_) rfl (by kernel_rfl) (by kernel_rfl) (by kernel_rfl) (by kernel_rfl) (fun _ _ _ h => h) hS (Or.inl ⟨by rfl, ?_⟩) ?_
      rotate_left 1
      · intro w9 k0
        obtain ⟨s0, s1, s2⟩ := k0
        go_simp
        try with_reducible rfl
      try simp only [List.getElem_toArray, List.getElem_cons_zero, List.getElem_cons_succ, Act.put, List.setIfInBounds_toArray, List.set_cons_zero, List.set_cons_succ]
      refine wpAnyL_take (i := 18) (v := ?_) rfl (by kernel_rfl) (by kernel_rfl) (by kernel_rfl) (by kernel_rfl) (fun _ _ _ h => h) hS (Or.inl ⟨by rfl, ?_⟩) ?_
      rotate_left 1
      · intro w9 k0
        obtain ⟨s0, s1, s2⟩ := k0
        go_simp
        try with_reducible rfl
      try simp only [List.getElem_toArray, List.getElem_cons_zero, List.getElem_cons_succ, Act.put, List.setIfInBounds_toArray, List.set_cons_zero, List.set_cons_succ]
      refine wpAnyL_take (i := 19) (v := ?_) rfl (by kernel_rfl) (by kernel_rfl) (by kernel_rfl) (by kernel_rfl) (fun _ _ _ h => h) hS (Or.inl ⟨by rfl, ?_⟩) ?_
      rotate_left 1
      · intro w9 k0
        obtain ⟨s0, s1, s2⟩ := k0
        go_simp
        try with_reducible rfl
      try simp only [List.getElem_toArray, List.getElem_cons_zero, List.getElem_cons_succ, Act.put, List.setIfInBounds_toArray, List.set_cons_zero, List.set_cons_succ]
      refine wpAnyL_one (i := 20) (by kernel_rfl) rfl (fun K hK => ?_)
      go_simp
      go_at_call 47
      refine (HSO.out A5 c5 wr.drew HS6.out).mono ?_
      rintro e w5 ⟨B, d, rfl, HB, hb5⟩
      have T5 := T0.trans (hb5.mono T0.size)
      have HB5 := Lib.hid HB
      have b5 := BX.trans ((hb.trans (T5.mono zb)).mono BX.size)
      clear HB hb5
      refine hK.out _ _ (fun _ => HSS.out _ T5) (fun hS' => ?_)
      clear hK K hS'
      refine wpAnyL_one (i := 21) (by kernel_rfl) rfl (fun K hK => ?_)
      go_simp
      refine hK.out _ _ (fun h => absurd rfl h) (fun hS' => ?_)
      refine wpAnyL_done (by kernel_rfl) ?_ _
      clear hS hK K hS'
      go_wp2_with fail
      go_ret
      exact ⟨B, d, rfl, HB5.out, b5⟩

end Go.Proofs.Ytmmgkmdfecnkdaa
