/- Far and ready of the statements (layer 4). -/
import Derived.Test.YtcbeiadimchknaaGreatQm23
import Derived.Test.YtcbeiadimchknaaGreatQm22
import Derived.Shelf.Abstract
import Derived.Laws.EntriesVeiled
import Derived.Handy
import Derived.Deep.DrawnRows
import Derived.Deep.DeepCutAuto
namespace Go.Proofs.YtcbeiadimchknaaGreat
open Go.RowKit
open Go.Sort (grow)
set_option linter.unusedVariables false
set_option linter.unusedSimpArgs false

/-- the number of ways in which the first k rods can be worn -/
def pk4 (rods : List Ro4) : Nat → Int
  | 0 => 1
  | k + 1 => pk4 rods k * ((roAt rods k).we + 1)
def nn4 (rods : List Ro4) : Nat → Nat → Nat
  | _, 0 => 1
  | i, r + 1 => ((roAt rods i).we + 1).toNat * nn4 rods (i + 1) r
theorem len_flat {α β : Type} {f : α → List β} {c : Nat} : ∀ {l : List α}, (∀ x ∈ l, (f x).length = c) → (l.flatMap f).length = l.length * c
  | [], _ => by simp
  | a :: l, h => by
    rw [List.flatMap_cons, List.length_append, h a (List.mem_cons_self ..), len_flat (fun x hx => h x (List.mem_cons_of_mem _ hx)), List.length_cons, Nat.succ_mul, Nat.add_comm]
theorem len_flat_le {α β : Type} {f : α → List β} {c : Nat} : ∀ {l : List α}, (∀ x ∈ l, (f x).length ≤ c) → (l.flatMap f).length ≤ l.length * c
  | [], _ => by simp
  | a :: l, h => by
    have h1 := h a (List.mem_cons_self ..)
    have h2 := len_flat_le (fun x hx => h x (List.mem_cons_of_mem _ hx))
    rw [List.flatMap_cons, List.length_append, List.length_cons, Nat.succ_mul]
    omega
theorem ups_lenF {a b : Int} : (ups a b).length = (b + 1 - a).toNat := by unfold ups; simp; try omega
theorem wo4_len (rods : List Ro4) : ∀ (r i : Nat) (u : W4), (wo4 rods i r u).length = nn4 rods i r
  | 0, _, _ => rfl
  | r + 1, i, u => by
    rw [wo4, len_flat (fun n _ => wo4_len rods r (i + 1) (u.put i n)), ups_lenF, nn4]
    congr 2
    omega
theorem pk4_nn {rods : List Ro4} {nr : Nat} (h : ∀ k, k < nr → 0 ≤ (roAt rods k).we) : ∀ (r i : Nat), i + r ≤ nr → pk4 rods i * (nn4 rods i r : Nat) = pk4 rods (i + r)
  | 0, i, _ => by simp [nn4]
  | r + 1, i, hi => by
    have h1 := pk4_nn h r (i + 1) (by omega)
    have h2 := h i (by omega)
    rw [show i + (r + 1) = i + 1 + r by omega, ← h1, nn4, pk4, Int.natCast_mul, Int.toNat_of_nonneg (by omega), Int.mul_assoc]
theorem pk4_bd {rods : List Ro4} {nr : Nat} (h : ∀ k, k < nr → 0 ≤ (roAt rods k).we ∧ (roAt rods k).we ≤ 9) : ∀ k, k ≤ nr → 1 ≤ pk4 rods k ∧ pk4 rods k ≤ 10 ^ k
  | 0, _ => by simp [pk4]
  | k + 1, hk => by
    have h1 := pk4_bd h k (by omega)
    have h2 := h k (by omega)
    have h3 : pk4 rods k * ((roAt rods k).we + 1) ≤ 10 ^ k * 10 := Int.mul_le_mul h1.2 (by omega) (by omega) (by omega)
    have h4 : 1 * 1 ≤ pk4 rods k * ((roAt rods k).we + 1) := Int.mul_le_mul h1.1 (by omega) (by omega) (by omega)
    rw [pk4, Int.pow_succ]
    omega
def wide4 (x : Re4) : Bool := decide (3 < x.hi - x.lo)
def far4 (p : P4) : Bool :=
  decide (40 < p.rods.length) || (decide (40 < p.res.length) || (ck4 p && (p.res.any wide4 || (decide (12 < pk4 p.rods p.rods.length) || (decide (8 < p.ghi - p.glo) || decide (4 < p.res.length))))))
def ready4 (p : P4) : Bool := !far4 p && ck4 p
theorem gr4_leF {p : P4} {wh : Int} {u : W4} : (gr4 p wh u).length ≤ p.res.length + 1 := by
  unfold gr4
  rw [List.length_map]
  exact Nat.le_trans (List.length_filter_le _ _) (by simp)
structure Rdy4 (p : P4) : Prop where
  nr : p.rods.length ≤ 40
  nd : p.res.length ≤ 40
  ck : ck4 p = true
  len : (tr4 p).length ≤ 90000
  nd4 : p.res.length ≤ 4
  g8 : p.ghi - p.glo ≤ 8
  wide : ∀ x ∈ p.res, x.hi - x.lo ≤ 3
  ways : (ws4 p).length ≤ 12
theorem ready4_iff {p : P4} (h : ready4 p = true) : Rdy4 p := by
  unfold ready4 far4 at h
  simp only [Bool.and_eq_true, Bool.not_eq_true', Bool.or_eq_false_iff, Bool.and_eq_false_iff, decide_eq_false_iff_not, List.any_eq_false] at h
  obtain ⟨⟨h1, h2, h3⟩, hc⟩ := h
  rcases h3 with h3 | ⟨h3, h4, h5, h6⟩
  · rw [hc] at h3; cases h3
  have ok := ok4_of (nr := p.rods.length) (nd := p.res.length) hc rfl rfl
  have hw : (ws4 p).length ≤ 12 := by
    unfold ws4
    rw [wo4_len]
    have := pk4_nn (rods := p.rods) (nr := p.rods.length) (fun k hk => (ok.ro k hk).2.1.1) p.rods.length 0 (by omega)
    rw [Nat.zero_add, pk4, Int.one_mul] at this
    omega
  refine ⟨by omega, by omega, hc, ?_, by omega, by omega, fun x hx => ?_, hw⟩
  · have h8 : (tr4 p).length ≤ (ws4 p).length * 25 := by
      refine Nat.le_trans (List.length_filter_le _ _) (len_flat_le fun u _ => ?_)
      have g1 := gr4_leF (p := p) (wh := 1) (u := u)
      have g2 := gr4_leF (p := p) (wh := 2) (u := u)
      refine Nat.le_trans (len_flat_le (c := 5) fun g _ => by rw [List.length_map]; omega) ?_
      omega
    omega
  · have := h3 x hx
    unfold wide4 at this
    simp at this
    omega
set_option maxRecDepth 100000 in
set_option maxHeartbeats 3200000 in
theorem far4_c (Ar : Option Addr) (nr cr : Nat) (Ad : Option Addr) (nd cd : Nat) (p : P4) (w : World) (HM : MemP Ar nr Ad nd p w) :
    Calls Tryz.prog 16 #[.agg #[.int .i64 p.ir, .int .i64 p.glo, .int .i64 p.ghi, .slice Ar nr cr, .slice Ad nd cd, .int .i64 p.wr]] w fun e w' => e = .returned (.bool (far4 p)) ∧ Below w.heap.size w w' := by
  have hr := HM.hr.1
  have hd := HM.hd.1
  have HMI := Lib.hid HM
  by_cases g1 : nr ≤ 40
  case neg =>
    have hf : far4 p = true := by unfold far4; rw [hr, show decide (40 < nr) = true by simp; omega]; rfl
    rw [hf]
    have gB : decide ((40 : Int) < nr) = true := by simp; omega
    clear hr hd hf HM
    obtain ⟨ir, glo, ghi, wrg, rods, res⟩ := p
    simp only
    go_enter Tryz.func16, Tryz.ntmps16
    go_wp2_with fail
    go_ret
    exact ⟨rfl, by (repeat first | with_reducible assumption | with_reducible exact Below.refl _ _ | (with_reducible refine Below.alloc ?_ ?side _; case side => (first | omega | (with_reducible exact Below.size (by assumption)) | (simp; done) | (simp; omega))) | (with_reducible refine Below.setCell ?_ ?side _; case side => (first | omega | (with_reducible exact Below.size (by assumption)) | (simp; done) | (simp; omega))) | with_reducible refine Below.drew ?_ | with_reducible refine below_drewN ?_ _ | (with_reducible refine below_step (by assumption) ?side ?_; case side => (first | omega | (with_reducible exact Below.size (by assumption)) | (simp; done) | (simp; omega))))⟩
  have gB1 : decide ((40 : Int) < nr) = false := by simp; omega
  by_cases g2 : nd ≤ 40
  case neg =>
    have hf : far4 p = true := by unfold far4; rw [hr, hd, show decide (40 < nd) = true by simp; omega]; simp
    rw [hf]
    have gB : decide ((40 : Int) < nd) = true := by simp; omega
    clear hr hd hf HM
    obtain ⟨ir, glo, ghi, wrg, rods, res⟩ := p
    simp only
    go_enter Tryz.func16, Tryz.ntmps16
    go_wp2_with fail
    go_ret
    exact ⟨rfl, by (repeat first | with_reducible assumption | with_reducible exact Below.refl _ _ | (with_reducible refine Below.alloc ?_ ?side _; case side => (first | omega | (with_reducible exact Below.size (by assumption)) | (simp; done) | (simp; omega))) | (with_reducible refine Below.setCell ?_ ?side _; case side => (first | omega | (with_reducible exact Below.size (by assumption)) | (simp; done) | (simp; omega))) | with_reducible refine Below.drew ?_ | with_reducible refine below_drewN ?_ _ | (with_reducible refine below_step (by assumption) ?side ?_; case side => (first | omega | (with_reducible exact Below.size (by assumption)) | (simp; done) | (simp; omega))))⟩
  have gB2 : decide ((40 : Int) < nd) = false := by simp; omega
  have HCK := Lib.hid (fun V (hV : Below w.heap.size w V) => refCheck4_c Ar nr cr Ad nd cd p V g1 g2 (HM.later hV))
  have hf : far4 p = (ck4 p && (p.res.any wide4 || (decide (12 < pk4 p.rods nr) || (decide (8 < p.ghi - p.glo) || decide (4 < nd))))) := by
    unfold far4; rw [hr, hd, show decide (40 < nr) = false by simp; omega, show decide (40 < nd) = false by simp; omega]; rfl
  rw [hf]
  have hok := fun h => ok4_of (nr := nr) (nd := nd) (p := p) h hr hd
  obtain ⟨ck, hck⟩ : ∃ c, ck4 p = c := ⟨_, rfl⟩
  rw [hck] at HCK hok ⊢
  clear hf hck HM
  cases ck
  · rw [show er4 false = 40 from rfl] at HCK
    rw [Bool.false_and]
    clear hr hd hok
    obtain ⟨ir, glo, ghi, wrg, rods, res⟩ := p
    simp only at HCK ⊢
    go_enter Tryz.func16, Tryz.ntmps16
    go_upto_region 3 with (fail)
    go_name_world X hX
    have BX : Below w.heap.size w X := by rw [← hX]; (repeat first | with_reducible assumption | with_reducible exact Below.refl _ _ | (with_reducible refine Below.alloc ?_ ?side _; case side => (first | omega | (with_reducible exact Below.size (by assumption)) | (simp; done) | (simp; omega))) | (with_reducible refine Below.setCell ?_ ?side _; case side => (first | omega | (with_reducible exact Below.size (by assumption)) | (simp; done) | (simp; omega))) | with_reducible refine Below.drew ?_ | with_reducible refine below_drewN ?_ _ | (with_reducible refine below_step (by assumption) ?side ?_; case side => (first | omega | (with_reducible exact Below.size (by assumption)) | (simp; done) | (simp; omega))))
    have q0 : ∀ j, X.cell? ⟨w.heap.size, j, none⟩ = #[Value.int .i64 ir, .int .i64 glo, .int .i64 ghi, .slice Ar nr cr, .slice Ad nd cd, .int .i64 wrg][j]? := by rw [← hX]; exact (Blk.new w _ _).cell
    have l0 : w.heap.size < X.heap.size := by rw [← hX]; simp
    clear hX
    go_wp2_with (go_at_call 17; refine (HCK.out X BX).mono ?_; (rintro e w1 ⟨rfl, hb1⟩); (have B1 := BX.trans (hb1.mono BX.size)); clear hb1)
    go_ret
    exact ⟨rfl, B1⟩
  rw [show er4 true = 0 from rfl] at HCK
  rw [Bool.true_and]
  have ok := hok rfl
  have OK := Lib.hid ok
  have hPB := Lib.hid (pk4_bd (rods := p.rods) (nr := nr) (fun k hk => ⟨(ok.ro k hk).2.1.1, (ok.ro k hk).2.1.2.1⟩))
  have hRB := Lib.hid (fun k (hk : k < nr) => (ok.ro k hk).2.1)
  have hEB := Lib.hid (fun k (hk : k < nd) => (ok.re k hk).2.2.2.2.2)
  have hnr4 := ok.nr4
  have hnd8 := ok.nd8
  have hg := ok.g
  have HA : Hid ((∀ k, k < nd → wide4 (reAt p.res k) = false) → p.res.any wide4 = false) := Lib.hid (fun h => by
    rw [List.any_eq_false]
    intro x hx
    obtain ⟨k, hk, rfl⟩ := List.getElem_of_mem hx
    have := h k (by omega)
    unfold reAt at this
    rw [List.getD_eq_getElem?_getD, List.getElem?_eq_getElem hk] at this
    simpa using this)
  have HB : Hid (∀ k, k < nd → wide4 (reAt p.res k) = true → p.res.any wide4 = true) := Lib.hid (fun k hk h => List.any_eq_true.2 ⟨_, reAt_mem (by omega), h⟩)
  clear hr hd hok ok
  obtain ⟨ir, glo, ghi, wrg, rods, res⟩ := p
  simp only at HCK hPB hRB hEB HA HB hg ⊢
  rw [show decide (4 < nd) = decide ((4 : Int) < (nd : Int)) by rw [decide_eq_decide]; omega]
  obtain ⟨wd, hwd⟩ : ∃ b, res.any wide4 = b := ⟨_, rfl⟩
  rw [hwd] at HA HB ⊢
  clear hwd
  go_enter Tryz.func16, Tryz.ntmps16
  go_upto_region 3 with (fail)
  go_name_world X hX
  have BX : Below w.heap.size w X := by rw [← hX]; (repeat first | with_reducible assumption | with_reducible exact Below.refl _ _ | (with_reducible refine Below.alloc ?_ ?side _; case side => (first | omega | (with_reducible exact Below.size (by assumption)) | (simp; done) | (simp; omega))) | (with_reducible refine Below.setCell ?_ ?side _; case side => (first | omega | (with_reducible exact Below.size (by assumption)) | (simp; done) | (simp; omega))) | with_reducible refine Below.drew ?_ | with_reducible refine below_drewN ?_ _ | (with_reducible refine below_step (by assumption) ?side ?_; case side => (first | omega | (with_reducible exact Below.size (by assumption)) | (simp; done) | (simp; omega))))
  have q0 : ∀ j, X.cell? ⟨w.heap.size, j, none⟩ = #[Value.int .i64 ir, .int .i64 glo, .int .i64 ghi, .slice Ar nr cr, .slice Ad nd cd, .int .i64 wrg][j]? := by rw [← hX]; exact (Blk.new w _ _).cell
  have l0 : w.heap.size < X.heap.size := by rw [← hX]; simp
  clear hX
  go_wp2_with (go_at_call 17; refine (HCK.out X BX).mono ?_; (rintro e w1 ⟨rfl, hb1⟩); (have q1 := fun j => (hb1.cell (p := ⟨w.heap.size, j, none⟩) l0).trans (q0 j)); (have l1 := Nat.lt_of_lt_of_le l0 hb1.size); (have B1 := BX.trans (hb1.mono BX.size)); clear hb1)
  go_loopw [3, 4] (fun a i (wr : World) => ∃ k : Nat, k ≤ nr ∧ a = .int .i64 (pk4 rods k) ∧ i = .int .i64 k ∧ Below w1.heap.size w1 wr) (fun a i _ => nr - (intOf i).toNat)
  case atStart => exact ⟨0, by omega, rfl, by simp, Below.refl _ _⟩
  case round =>
    obtain ⟨k, hk, rfl, rfl, hbr⟩ := hrel
    have hw := B1.trans (hbr.mono B1.size)
    have q2 := fun j => (hbr.cell (p := ⟨w.heap.size, j, none⟩) l1).trans (q1 j)
    have l2 := Nat.lt_of_lt_of_le l1 hbr.size
    have hp1 := hPB.out k hk
    by_cases hkn : k < nr
    · have hkB : decide ((k : Int) < nr) = true := by simp; omega
      have vk : IntKind.i64.wrap ((k : Int) + 1) = (k : Int) + 1 := IntWalk.i64_in _ (by omega)
      have hp2 := hPB.out (k + 1) (by omega)
      have hx := hRB.out k hkn
      obtain ⟨b, o, hA, hb, x0, x1, x2⟩ := (HMI.out.hr.later hw).get hkn
      subst hA
      have h10 : (10 : Int) ^ (k + 1) ≤ 10000 := by
        match k, (show k < 4 by omega) with
        | 0, _ => decide
        | 1, _ => decide
        | 2, _ => decide
        | 3, _ => decide
      have HPS := Lib.hid (show pk4 rods (k + 1) = pk4 rods k * ((roAt rods k).we + 1) from rfl)
      rw [HPS.out] at hp2
      obtain ⟨x, hxe⟩ : ∃ x, (roAt rods k).we = x := ⟨_, rfl⟩
      obtain ⟨pk, hpk⟩ : ∃ x, pk4 rods k = x := ⟨_, rfl⟩
      rw [hxe] at x1 hx hp2 HPS
      rw [hpk] at hp1 hp2 HPS ⊢
      have v1 : IntKind.i64.wrap (x + 1) = x + 1 := IntWalk.i64_in _ (by omega)
      have v2 : IntKind.i64.wrap (pk * (x + 1)) = pk * (x + 1) := IntWalk.i64_in _ (by omega)
      clear hxe hpk hp2 hp1 h10 hx
      go_wp2_with fail
      go_roundw
      case rel => exact ⟨k + 1, by omega, by rw [HPS.out], by go_num, hbr⟩
      case measure => simp [intOf]; omega
    · obtain rfl : k = nr := by omega
      have hkB : decide ((k : Int) < k) = false := by simp
      obtain ⟨w2, rfl⟩ : ∃ w2 : World, w2 = wr := ⟨_, rfl⟩
      obtain ⟨pk, hpk⟩ : ∃ x, pk4 rods k = x := ⟨_, rfl⟩
      rw [hpk]
      have HPK := Lib.hid hpk
      clear q1 l1 hbr hkn q0 l0 hp1 hpk
      go_wp2_with fail
      go_loopw [5] (fun i (wr : World) => ∃ j : Nat, j ≤ nd ∧ i = .int .i64 j ∧ Hid (∀ i, i < j → wide4 (reAt res i) = false) ∧ Below w2.heap.size w2 wr) (fun i _ => nd - (intOf i).toNat)
      case atStart => exact ⟨0, by omega, by simp, Lib.hid (fun j hj => absurd hj (by omega)), Below.refl _ _⟩
      case round =>
        obtain ⟨j, hj, rfl, H2, hbr⟩ := hrel
        have hw2 := hw.trans (hbr.mono hw.size)
        have q3 := fun j => (hbr.cell (p := ⟨w.heap.size, j, none⟩) l2).trans (q2 j)
        have l3 := Nat.lt_of_lt_of_le l2 hbr.size
        by_cases hjn : j < nd
        · have hjB : decide ((j : Int) < nd) = true := by simp; omega
          have vj : IntKind.i64.wrap ((j : Int) + 1) = (j : Int) + 1 := IntWalk.i64_in _ (by omega)
          obtain ⟨b, o, hA, hb, x0, x1, x2, x3, x4, x5, x6⟩ := (HMI.out.hd.later hw2).get hjn
          subst hA
          have hx := hEB.out j hjn
          have hB1 := HB.out j hjn
          have HW := Lib.hid (show wide4 (reAt res j) = decide (3 < (reAt res j).hi - (reAt res j).lo) from rfl)
          obtain ⟨lo, hlo⟩ : ∃ x, (reAt res j).lo = x := ⟨_, rfl⟩
          obtain ⟨hi, hhi⟩ : ∃ x, (reAt res j).hi = x := ⟨_, rfl⟩
          rw [hlo, hhi] at hx HW
          rw [hlo] at x5
          rw [hhi] at x6
          have v1 : IntKind.i64.wrap (hi - lo) = hi - lo := IntWalk.i64_in _ (by omega)
          clear hlo hhi x0 x1 x2 x3 x4
          cases e9 : decide (3 < hi - lo)
          · have g9 : ¬ 3 < hi - lo := of_decide_eq_false e9
            have H3 : Hid (∀ i, i < j + 1 → wide4 (reAt res i) = false) := Lib.hid (fun i hi' => by
              rcases Nat.lt_succ_iff_lt_or_eq.1 hi' with h | rfl
              · exact H2.out i h
              · rw [HW.out, e9])
            clear hB1 g9 hx
            go_upto_region 13 with (fail)
            have hcq := fun p : Regrown => (bcell (below_regrown wr p.d p.os)).1
            refine wp_region_quiet_below (by kernel_rfl) (by kernel_rfl) ?_
            repeat (go_big_quiet_step ((fail)))
            refine wpQuiet_nil ?_
            intro wq hq
            obtain ⟨pq, hq⟩ := hq
            have hbq : Below wr.heap.size wr wq := by rw [hq]; exact below_regrown _ _ _
            clear hq hcq pq
            obtain ⟨hcq, hfq⟩ := bcell hbq
            have zq := hbq.size
            have b3 := hbr.trans (hbq.mono hbr.size)
            clear hcq hfq hbq
            go_wp2_with fail
            go_roundw
            case rel => exact ⟨j + 1, by omega, by go_num, H3, by (repeat first | with_reducible assumption | with_reducible exact Below.refl _ _ | (with_reducible refine Below.alloc ?_ ?side _; case side => (first | omega | (with_reducible exact Below.size (by assumption)) | (simp; done) | (simp; omega))) | (with_reducible refine Below.setCell ?_ ?side _; case side => (first | omega | (with_reducible exact Below.size (by assumption)) | (simp; done) | (simp; omega))) | with_reducible refine Below.drew ?_ | with_reducible refine below_drewN ?_ _ | (with_reducible refine below_step (by assumption) ?side ?_; case side => (first | omega | (with_reducible exact Below.size (by assumption)) | (simp; done) | (simp; omega))))⟩
            case measure => simp [intOf]; omega
          · have hwd : wd = true := hB1 (by rw [HW.out, e9])
            subst hwd
            clear hB1 hx
            go_upto_region 13 with (fail)
            have hcq := fun p : Regrown => (bcell (below_regrown wr p.d p.os)).1
            refine wp_region_quiet_below (by kernel_rfl) (by kernel_rfl) ?_
            repeat (go_big_quiet_step ((fail)))
            refine wpQuiet_nil ?_
            intro wq hq
            obtain ⟨pq, hq⟩ := hq
            have hbq : Below wr.heap.size wr wq := by rw [hq]; exact below_regrown _ _ _
            clear hq hcq pq
            obtain ⟨hcq, hfq⟩ := bcell hbq
            have zq := hbq.size
            have b3 := hw2.trans (hbq.mono hw2.size)
            clear hcq hfq hbq
            go_wp2_with fail
            go_ret
            exact ⟨ret_bool (by simp), by (repeat first | with_reducible assumption | with_reducible exact Below.refl _ _ | (with_reducible refine Below.alloc ?_ ?side _; case side => (first | omega | (with_reducible exact Below.size (by assumption)) | (simp; done) | (simp; omega))) | (with_reducible refine Below.setCell ?_ ?side _; case side => (first | omega | (with_reducible exact Below.size (by assumption)) | (simp; done) | (simp; omega))) | with_reducible refine Below.drew ?_ | with_reducible refine below_drewN ?_ _ | (with_reducible refine below_step (by assumption) ?side ?_; case side => (first | omega | (with_reducible exact Below.size (by assumption)) | (simp; done) | (simp; omega))))⟩
        · obtain rfl : j = nd := by omega
          have hjB : decide ((j : Int) < j) = false := by simp
          have hwd : wd = false := HA.out H2.out
          subst hwd
          have v1 : IntKind.i64.wrap (ghi - glo) = ghi - glo := IntWalk.i64_in _ (by omega)
          clear HA HB H2
          cases e1 : decide (12 < pk) <;> cases e2 : decide (8 < ghi - glo) <;> cases e3 : decide ((4 : Int) < (j : Int))
          all_goals
            go_wp2_with fail
            go_ret
            exact ⟨ret_bool (by rw [HPK.out, e1, e2, e3]; rfl), hw2⟩

end Go.Proofs.YtcbeiadimchknaaGreat
