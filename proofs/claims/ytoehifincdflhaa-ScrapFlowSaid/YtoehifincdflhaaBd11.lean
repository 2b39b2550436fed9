/- bounds of the specification (layer 11): what sets of places leave for a pipe, or for what stays at a place. -/
import Derived.Test.YtoehifincdflhaaOp11
import Derived.Test.YtoehifincdflhaaPv11
import Derived.Test.YtoehifincdflhaaG11
import Derived.Deep.DeepCutAuto
namespace Go.Proofs.Ytoehifincdflhaa
open Go.RowKit
open Go.Sort (grow)
set_option linter.unusedVariables false

def bLo (s : Nat) (place : Int) (st : List Sp) (i : Nat) : Int := bif hsB s (i : Int) then (bif (i : Int) == place then 0 else (spAt st i).lo) else 0
def bHi (s : Nat) (place : Int) (st : List Sp) (i : Nat) : Int := bif hsB s (i : Int) then (bif (i : Int) == place then 0 else (spAt st i).hi) else 0
def bKs (s : Nat) (place : Int) (i : Nat) : Int := bif hsB s (i : Int) then (bif (i : Int) == place then -1 else 0) else 0
def pLo (s : Nat) (free : Int) (pp : List Pp) (i : Nat) : Int :=
  bif hsB s (ppAt pp i).to == hsB s (ppAt pp i).fr then 0 else bif (i : Int) == free then 0 else bif hsB s (ppAt pp i).to then -(ppAt pp i).hi else (ppAt pp i).lo
def pHi (s : Nat) (free : Int) (pp : List Pp) (i : Nat) : Int :=
  bif hsB s (ppAt pp i).to == hsB s (ppAt pp i).fr then 0 else bif (i : Int) == free then 0 else bif hsB s (ppAt pp i).to then -(ppAt pp i).lo else (ppAt pp i).hi
def pKs (s : Nat) (free : Int) (pp : List Pp) (i : Nat) : Int :=
  bif hsB s (ppAt pp i).to == hsB s (ppAt pp i).fr then 0 else bif (i : Int) == free then (bif hsB s (ppAt pp i).to then 1 else -1) else 0
def loR (m n : Nat) (pp : List Pp) (st : List Sp) (free place : Int) (s : Nat) : Int := sumF (bLo s place st) n + sumF (pLo s free pp) m
def hiR (m n : Nat) (pp : List Pp) (st : List Sp) (free place : Int) (s : Nat) : Int := sumF (bHi s place st) n + sumF (pHi s free pp) m
def ksR (m n : Nat) (pp : List Pp) (free place : Int) (s : Nat) : Int := sumF (bKs s place) n + sumF (pKs s free pp) m
def badR (m n : Nat) (pp : List Pp) (st : List Sp) (free place : Int) (s : Nat) : Bool :=
  (ksR m n pp free place s == 0) && (decide (0 < loR m n pp st free place s) || decide (hiR m n pp st free place s < 0))
def stepR (k lo hi : Int) (o : Sp) : Sp :=
  bif decide (0 < k) then ⟨max o.lo lo, min o.hi hi⟩ else bif decide (k < 0) then ⟨max o.lo (-hi), min o.hi (-lo)⟩ else o
def o0R (pp : List Pp) (st : List Sp) (free place : Int) : Sp :=
  bif decide (0 ≤ place) then spAt st place.toNat else bif decide (0 ≤ free) then ⟨(ppAt pp free.toNat).lo, (ppAt pp free.toNat).hi⟩ else ⟨0, 0⟩
def outR (m n : Nat) (pp : List Pp) (st : List Sp) (free place : Int) : Nat → Sp
  | 0 => o0R pp st free place
  | t + 1 => stepR (ksR m n pp free place (t + 1)) (loR m n pp st free place (t + 1)) (hiR m n pp st free place (t + 1)) (outR m n pp st free place t)
def anyBad (m n : Nat) (pp : List Pp) (st : List Sp) (free place : Int) : Bool := anyN (2 ^ n - 1) fun t => badR m n pp st free place (t + 1)
def bndS (m n : Nat) (pp : List Pp) (st : List Sp) (free place : Int) : Sp := bif anyBad m n pp st free place then ⟨0, 0⟩ else outR m n pp st free place (2 ^ n - 1)
def bndB (m n : Nat) (pp : List Pp) (st : List Sp) (free place : Int) : Bool :=
  !anyBad m n pp st free place && decide ((outR m n pp st free place (2 ^ n - 1)).lo ≤ (outR m n pp st free place (2 ^ n - 1)).hi)
/-- values in which sums don't overflow -/
structure BndOk (m n : Nat) (pp : List Pp) (st : List Sp) (free place : Int) : Prop where
  hm : m ≤ 16
  hn : n ≤ 6
  pp : ∀ k, -10000 ≤ (ppAt pp k).lo ∧ (ppAt pp k).lo ≤ 10000 ∧ -10000 ≤ (ppAt pp k).hi ∧ (ppAt pp k).hi ≤ 10000 ∧ (ppAt pp k).fr < 64 ∧ (ppAt pp k).to < 64
  st : ∀ k, -10000 ≤ (spAt st k).lo ∧ (spAt st k).lo ≤ 10000 ∧ -10000 ≤ (spAt st k).hi ∧ (spAt st k).hi ≤ 10000
  fr : free = -1 ∨ ∃ f : Nat, free = f ∧ f < m
  pl : place = -1 ∨ ∃ f : Nat, place = f ∧ f < n
section
variable {m n s : Nat} {pp : List Pp} {st : List Sp} {free place : Int}
theorem bLo_bd (h : BndOk m n pp st free place) (k : Nat) : (-10000 ≤ bLo s place st k ∧ bLo s place st k ≤ 10000) ∧ (-10000 ≤ bHi s place st k ∧ bHi s place st k ≤ 10000) ∧ -10000 ≤ bKs s place k ∧ bKs s place k ≤ 10000 := by
  have := h.st k
  unfold bLo bHi bKs
  cases hsB s (k : Int) <;> cases ((k : Int) == place) <;> simp <;> omega
theorem pLo_bd (h : BndOk m n pp st free place) (k : Nat) : (-10000 ≤ pLo s free pp k ∧ pLo s free pp k ≤ 10000) ∧ (-10000 ≤ pHi s free pp k ∧ pHi s free pp k ≤ 10000) ∧ -10000 ≤ pKs s free pp k ∧ pKs s free pp k ≤ 10000 := by
  have := h.pp k
  unfold pLo pHi pKs
  cases hsB s (ppAt pp k).to <;> cases hsB s (ppAt pp k).fr <;> cases ((k : Int) == free) <;> simp <;> omega
end
theorem run_min2 {P : Program} {w : World} (ts : Array TypeId) (t : TypeId) (x y : Int) : (Builtin.min_ ts t #[.int .i64 x, .int .i64 y]).run P w = .ok (.int .i64 (min x y)) w := by
  simp [Builtin.min_, Builtin.min2]
  omega
theorem run_max2 {P : Program} {w : World} (ts : Array TypeId) (t : TypeId) (x y : Int) : (Builtin.max_ ts t #[.int .i64 x, .int .i64 y]).run P w = .ok (.int .i64 (max x y)) w := by
  simp [Builtin.max_, Builtin.max2]
  omega
attribute [local go_sem] run_min2 run_max2
theorem refHasB_c (s : Nat) (i : Int) (w : World) (hs : s < 65536) (hi : i < 64) :
    Calls Try.prog 86 #[.int .i64 s, .int .i64 i] w fun e w' => e = .returned (.bool (hsB s i)) ∧ w = w' := refHas_c s i w hs hi
/-- the block of the answer, in the midst -/
structure OutP (g : Nat) (o : Sp) (W wx : World) : Prop where
  below : Below g W wx
  c0 : wx.cell? ⟨g, 0, none⟩ = some (.int .i64 o.lo)
  c1 : wx.cell? ⟨g, 1, none⟩ = some (.int .i64 o.hi)
  f : ∀ i, wx.frozen? ⟨g, i, none⟩ = false
  lt : g < wx.heap.size
/-- the three blocks of bounds: the net, the result, the answer in the midst -/
structure MidW (b : Nat) (A1 A2 : Option Addr) (m n k1 k2 : Nat) (o : Sp) (wx : World) : Prop where
  y0 : ∀ i, wx.cell? ⟨b, i, none⟩ = #[Value.slice A1 m k1, .slice A2 n k2][i]?
  y1 : ∀ i, wx.cell? ⟨b + 1, i, none⟩ = #[Value.int .i64 0, .int .i64 0][i]?
  yf : ∀ i, wx.frozen? ⟨b + 1, i, none⟩ = false
  c0 : wx.cell? ⟨b + 1 + 1, 0, none⟩ = some (.int .i64 o.lo)
  c1 : wx.cell? ⟨b + 1 + 1, 1, none⟩ = some (.int .i64 o.hi)
  cf : ∀ i, wx.frozen? ⟨b + 1 + 1, i, none⟩ = false
  lt : b + 1 + 1 < wx.heap.size
theorem MidW.later {b : Nat} {A1 A2 : Option Addr} {m n k1 k2 : Nat} {o : Sp} {wx wy : World} (h : MidW b A1 A2 m n k1 k2 o wx) (hb : Below wx.heap.size wx wy) : MidW b A1 A2 m n k1 k2 o wy := by
  obtain ⟨hc, hf⟩ := bcell hb
  have l := h.lt
  exact ⟨fun i => (hc _ i (by omega)).trans (h.y0 i), fun i => (hc _ i (by omega)).trans (h.y1 i), fun i => (hf _ i (by omega)).trans (h.yf i), (hc _ 0 l).trans h.c0, (hc _ 1 l).trans h.c1, fun i => (hf _ i l).trans (h.cf i), Nat.lt_of_lt_of_le l hb.size⟩
theorem MidW.set {b : Nat} {A1 A2 : Option Addr} {m n k1 k2 : Nat} {o : Sp} {wx : World} (h : MidW b A1 A2 m n k1 k2 o wx) (a c : Int) : MidW b A1 A2 m n k1 k2 ⟨a, c⟩ ((wx.setCell ⟨b + 1 + 1, 0, none⟩ (.int .i64 a)).setCell ⟨b + 1 + 1, 1, none⟩ (.int .i64 c)) := by
  refine ⟨fun i => ?_, fun i => ?_, fun i => ?_, ?_, ?_, fun i => ?_, ?_⟩
  · rw [World.cell?_setCell_other _ _ _ _ (by first | omega | (simp; done) | (simp; omega)), World.cell?_setCell_other _ _ _ _ (by first | omega | (simp; done) | (simp; omega))]; exact h.y0 i
  · rw [World.cell?_setCell_other _ _ _ _ (by simp), World.cell?_setCell_other _ _ _ _ (by simp)]; exact h.y1 i
  · simp only [World.frozen?_setCell]; exact h.yf i
  · exact (World.cell?_setCell_other _ _ _ _ (by simp)).trans (World.cell?_setCell_same _ _ _ h.c0)
  · exact World.cell?_setCell_same _ _ _ ((World.cell?_setCell_other _ _ _ _ (by simp)).trans h.c1)
  · simp only [World.frozen?_setCell]; exact h.cf i
  · simp; exact h.lt
set_option maxRecDepth 100000 in
set_option maxHeartbeats 3200000 in
theorem bounds_c (A1 A2 : Option Addr) (m n k1 k2 : Nat) (free place : Int) (pp : List Pp) (st : List Sp) (w : World) (hok : BndOk m n pp st free place) (HP : PpsAt w A1 m pp) (HS : SpsAt w A2 n st) :
    Calls Try.prog 77 #[.agg #[.slice A1 m k1, .slice A2 n k2], .int .i64 free, .int .i64 place] w
      fun e w' => e = .returned (.tuple #[.agg #[.int .i64 (bndS m n pp st free place).lo, .int .i64 (bndS m n pp st free place).hi], .bool (bndB m n pp st free place)]) ∧ Below w.heap.size w w' := by
  have HPI := Lib.hid HP
  have HSI := Lib.hid HS
  have HK := Lib.hid hok
  have hm := hok.hm
  have hn := hok.hn
  obtain ⟨o0, ho0⟩ : ∃ o, o0R pp st free place = o := ⟨_, rfl⟩
  have HO0 := Lib.hid ho0
  have HFR := Lib.hid hok.fr
  have HPL := Lib.hid hok.pl
  clear HP HS hok ho0
  go_enter Try.func77, Try.ntmps77
  go_upto_if 19 with fail
  go_name_world W hW
  obtain ⟨hB, hz⟩ := al3 hW
  obtain ⟨l_0, q_0, f_0⟩ := al3_0 hW
  obtain ⟨l_1, q_1, f_1⟩ := al3_1 hW
  obtain ⟨l_2, q_2, f_2⟩ := al3_2 hW
  have HZ := Lib.hid hz
  have zs := hB.size
  clear hW hz
  go_cut [] (fun wx => OutP (w.heap.size + 1 + 1) (bif decide (0 ≤ free) then ⟨(ppAt pp free.toNat).lo, (ppAt pp free.toNat).hi⟩ else ⟨0, 0⟩) W wx)
  case first =>
    rcases HFR.out with rfl | ⟨f, rfl, hfm⟩
    · go_wp2_with fail
      go_meet
      exact ⟨Below.refl _ _, q_2 0, q_2 1, f_2, l_2⟩
    · have e1 : ((f : Int) != -1) = true := by simp
      obtain ⟨bp, op, rfl, hbp, x0, x1, x2, x3⟩ := (HPI.out.later hB).get hfm
      go_wp2_with fail
      go_region
      go_wp2_with fail
      go_meet
      have e0 : (bif decide ((0 : Int) ≤ (f : Int)) then (⟨(ppAt pp (f : Int).toNat).lo, (ppAt pp (f : Int).toNat).hi⟩ : Sp) else ⟨0, 0⟩) = ⟨(ppAt pp f).lo, (ppAt pp f).hi⟩ := by simp
      rw [e0]
      exact ⟨by (repeat first | with_reducible assumption | with_reducible exact Below.refl _ _ | (with_reducible refine Below.alloc ?_ ?side _; case side => (first | omega | (with_reducible exact Below.size (by assumption)) | (simp; done) | (simp; omega))) | (with_reducible refine Below.setCell ?_ ?side _; case side => (first | omega | (with_reducible exact Below.size (by assumption)) | (simp; done) | (simp; omega))) | with_reducible refine Below.drew ?_ | with_reducible refine below_drewN ?_ _ | (with_reducible refine below_step (by assumption) ?side ?_; case side => (first | omega | (with_reducible exact Below.size (by assumption)) | (simp; done) | (simp; omega)))), two_set q_2 0, two_set q_2 1, fun i => by simp only [World.frozen?_drew, World.frozen?_setCell]; exact f_2 i, by simp; exact l_2⟩
  case rest =>
    obtain ⟨oa, hoa⟩ : ∃ o : Sp, (bif decide (0 ≤ free) then ⟨(ppAt pp free.toNat).lo, (ppAt pp free.toNat).hi⟩ else ⟨0, 0⟩) = o := ⟨_, rfl⟩
    rw [hoa] at hcut
    have HOA := Lib.hid hoa
    have HC := Lib.hid hcut
    have Bc := hcut.below
    have zc := Bc.size
    have lc := hcut.lt
    have s0 := fun i => (Bc.cell (p := ⟨w.heap.size, i, none⟩) (by simp; omega)).trans (q_0 i)
    have s2 := hcut.c0
    have s3 := hcut.c1
    have sf := hcut.f
    have s1 := fun i => (Bc.cell (p := ⟨w.heap.size + 1, i, none⟩) (by simp)).trans (q_1 i)
    have g1 := fun i => (Bc.frozen (p := ⟨w.heap.size + 1, i, none⟩) (by simp)).trans (f_1 i)
    clear q_0 q_1 q_2 f_0 f_1 f_2 hoa hcut
    go_upto_if 34 with fail
    have hBc : Below w.heap.size w wc := hB.trans (Bc.mono (by omega))
    obtain ⟨wa, hwa⟩ : ∃ wa, wc = wa := ⟨_, rfl⟩
    rw [hwa] at hBc s0 s1 s2 s3 sf g1 lc HC zc Bc ⊢
    clear hwa
    go_cut [] (fun wx => OutP (w.heap.size + 1 + 1) o0 wa wx)
    case first =>
      have ho := HO0.out
      rcases HPL.out with rfl | ⟨j, rfl, hj⟩
      · have eo : oa = o0 := by rw [← ho, ← HOA.out]; rfl
        go_wp2_with fail
        go_meet
        rw [← eo]
        exact ⟨Below.refl _ _, s2, s3, sf, lc⟩
      · have e1 : ((j : Int) != -1) = true := by simp
        have eo : o0 = spAt st j := by rw [← ho]; simp [o0R]
        obtain ⟨bp, op, rfl, hbp, x0, x1⟩ := (HSI.out.later hBc).get hj
        go_wp2_with fail
        try go_region
        try go_wp2_with fail
        go_meet
        rw [eo]
        refine ⟨by (repeat first | with_reducible assumption | with_reducible exact Below.refl _ _ | (with_reducible refine Below.alloc ?_ ?side _; case side => (first | omega | (with_reducible exact Below.size (by assumption)) | (simp; done) | (simp; omega))) | (with_reducible refine Below.setCell ?_ ?side _; case side => (first | omega | (with_reducible exact Below.size (by assumption)) | (simp; done) | (simp; omega))) | with_reducible refine Below.drew ?_ | with_reducible refine below_drewN ?_ _ | (with_reducible refine below_step (by assumption) ?side ?_; case side => (first | omega | (with_reducible exact Below.size (by assumption)) | (simp; done) | (simp; omega)))), ?_, ?_, fun i => ?_, ?_⟩
        · (repeat first | with_reducible assumption | (with_reducible refine (World.cell?_alloc_lt _ _ _ ?side).trans ?_; case side => (first | omega | (simp; done) | (simp; omega))) | with_reducible refine World.cell?_setCell_same' _ _ _ ?_ | (with_reducible refine (World.cell?_setCell_other _ _ _ _ ?side).trans ?_; case side => (simp; done)) | with_reducible refine some_set ?_ | with_reducible exact some_of (by assumption))
        · (repeat first | with_reducible assumption | (with_reducible refine (World.cell?_alloc_lt _ _ _ ?side).trans ?_; case side => (first | omega | (simp; done) | (simp; omega))) | with_reducible refine World.cell?_setCell_same' _ _ _ ?_ | (with_reducible refine (World.cell?_setCell_other _ _ _ _ ?side).trans ?_; case side => (simp; done)) | with_reducible refine some_set ?_ | with_reducible exact some_of (by assumption))
        · simp only [World.frozen?_setCell]; exact sf i
        · simp; exact lc
    case rest =>
      have B2 : Below (w.heap.size + 1 + 1) wa wc := hcut.below
      have z2 := B2.size
      have hb2 : Below w.heap.size w wc := hBc.trans (B2.mono (by omega))
      have x0 := fun i => (B2.cell (p := ⟨w.heap.size, i, none⟩) (by simp; omega)).trans (s0 i)
      have x1 := fun i => (B2.cell (p := ⟨w.heap.size + 1, i, none⟩) (by simp)).trans (s1 i)
      have h1 := fun i => (B2.frozen (p := ⟨w.heap.size + 1, i, none⟩) (by simp)).trans (g1 i)
      have HM0 : Hid (MidW w.heap.size A1 A2 m n k1 k2 o0 wc) := ⟨x0, x1, h1, hcut.c0, hcut.c1, hcut.f, hcut.lt⟩
      clear s0 s1 s2 s3 sf g1 lc HC Bc B2 zc hcut hBc HFR HPL HOA hB x0 x1 h1 z2
      obtain ⟨M, hM2⟩ : ∃ M, 2 ^ n = M := ⟨_, rfl⟩
      have hMle : M ≤ 64 := by
        have : 2 ^ n ≤ 2 ^ 6 := Nat.pow_le_pow_right (by omega) hn
        omega
      have hM1 : 1 ≤ M := by rw [← hM2]; exact Nat.one_le_two_pow
      have hsh : IntKind.i64.wrap ((2 : Int) ^ n) = (M : Int) := by
        have e : (2 : Int) ^ n = (M : Int) := by rw [← hM2]; simp
        rw [e, IntWalk.i64_in _ (by omega)]
      have HM2 := Lib.hid hM2
      clear hM2
      go_wp2_with fail
      go_loopw [9] (fun t (wr : World) => ∃ k s : Nat, s = k + 1 ∧ k < M ∧ t = .int .i64 s ∧ Hid (∀ j, j < k → badR m n pp st free place (j + 1) = false) ∧ Hid (MidW w.heap.size A1 A2 m n k1 k2 (outR m n pp st free place k) wr) ∧ Below w.heap.size w wr) (fun t _ => M - (intOf t).toNat)
      case atStart => exact ⟨0, 1, rfl, by omega, rfl, fun j hj => absurd hj (by omega), by rw [outR, HO0.out]; exact HM0.out, hb2⟩
      case round =>
        obtain ⟨k, s, hsk, hk, rfl, HN, HM, hbw⟩ := hrel
        obtain ⟨o, hoo⟩ : ∃ o, outR m n pp st free place k = o := ⟨_, rfl⟩
        rw [hoo] at HM
        have HOO := Lib.hid hoo
        replace hsk := Lib.hid hsk
        clear hoo HM0 HO0
        obtain ⟨y0, y1, yf, yc0, yc1, ycf, lo⟩ := HM.out
        have m0 : w.heap.size < wr.heap.size := by omega
        by_cases hlt : s < M
        · have hltB : decide ((s : Int) < M) = true := by simp; omega
          have hs6 : s < 65536 := by omega
          have BL := Lib.hid (fun k => sumF_bd (f := bLo s place st) (M := 10000) (fun i => (bLo_bd HK.out i).1) k)
          have BH := Lib.hid (fun k => sumF_bd (f := bHi s place st) (M := 10000) (fun i => (bLo_bd HK.out i).2.1) k)
          have BK := Lib.hid (fun k => sumF_bd (f := bKs s place) (M := 10000) (fun i => (bLo_bd HK.out i).2.2) k)
          have PL := Lib.hid (fun k => sumF_bd (f := pLo s free pp) (M := 10000) (fun i => (pLo_bd HK.out i).1) k)
          have PH := Lib.hid (fun k => sumF_bd (f := pHi s free pp) (M := 10000) (fun i => (pLo_bd HK.out i).2.1) k)
          have PK := Lib.hid (fun k => sumF_bd (f := pKs s free pp) (M := 10000) (fun i => (pLo_bd HK.out i).2.2) k)
          go_wp2_with fail
          clear y0 y1 yf yc0 yc1 ycf
          obtain ⟨wo, rfl⟩ : ∃ wo : World, wo = wr := ⟨_, rfl⟩
          go_loopw [10, 11, 12, 13] (fun a b c i (ws : World) => ∃ j : Nat, j ≤ n ∧ i = .int .i64 j ∧ a = .int .i64 (sumF (bLo s place st) j) ∧ b = .int .i64 (sumF (bHi s place st) j) ∧ c = .int .i64 (sumF (bKs s place) j) ∧ Below wo.heap.size wo ws) (fun _ _ _ i _ => n - (intOf i).toNat)
          case atStart => exact ⟨0, by omega, rfl, rfl, rfl, rfl, Below.refl _ _⟩
          case round =>
            obtain ⟨j, hj, rfl, rfl, rfl, rfl, hbo⟩ := hrel
            obtain ⟨y0, y1, yf, yc0, yc1, ycf, lo'⟩ := HM.out.later hbo
            have zo := hbo.size
            have m0' : w.heap.size < wr.heap.size := by omega
            obtain ⟨a, ha⟩ : ∃ a, sumF (bLo s place st) j = a := ⟨_, rfl⟩
            obtain ⟨b, hb⟩ : ∃ a, sumF (bHi s place st) j = a := ⟨_, rfl⟩
            obtain ⟨c, hcc⟩ : ∃ a, sumF (bKs s place) j = a := ⟨_, rfl⟩
            have ba := BL.out j
            have bb := BH.out j
            have bc := BK.out j
            rw [ha] at ba ⊢
            rw [hb] at bb ⊢
            rw [hcc] at bc ⊢
            have SA := Lib.hid (show sumF (bLo s place st) (j + 1) = a + bLo s place st j by rw [← ha]; rfl)
            have SB := Lib.hid (show sumF (bHi s place st) (j + 1) = b + bHi s place st j by rw [← hb]; rfl)
            have SC := Lib.hid (show sumF (bKs s place) (j + 1) = c + bKs s place j by rw [← hcc]; rfl)
            replace ha := Lib.hid ha
            replace hb := Lib.hid hb
            replace hcc := Lib.hid hcc
            have hbww : Below w.heap.size w wr := by (repeat first | with_reducible assumption | with_reducible exact Below.refl _ _ | (with_reducible refine Below.alloc ?_ ?side _; case side => (first | omega | (with_reducible exact Below.size (by assumption)) | (simp; done) | (simp; omega))) | (with_reducible refine Below.setCell ?_ ?side _; case side => (first | omega | (with_reducible exact Below.size (by assumption)) | (simp; done) | (simp; omega))) | with_reducible refine Below.drew ?_ | with_reducible refine below_drewN ?_ _ | (with_reducible refine below_step (by assumption) ?side ?_; case side => (first | omega | (with_reducible exact Below.size (by assumption)) | (simp; done) | (simp; omega))))
            by_cases hjn : j < n
            · have hjB : decide ((j : Int) < n) = true := by simp; omega
              obtain ⟨bs, os, rfl, hbs, v0, v1⟩ := (HSI.out.later hbww).get hjn
              have ys := HK.out.st j
              have s1 : IntKind.i64.wrap (a + (spAt st j).lo) = a + (spAt st j).lo := IntWalk.i64_in _ (by omega)
              have s2 : IntKind.i64.wrap (b + (spAt st j).hi) = b + (spAt st j).hi := IntWalk.i64_in _ (by omega)
              have s3 : IntKind.i64.wrap (c - 1) = c - 1 := IntWalk.i64_in _ (by omega)
              have EA := Lib.hid (show bLo s place st j = bif hsB s (j : Int) then (bif (j : Int) == place then 0 else (spAt st j).lo) else 0 from rfl)
              have EB := Lib.hid (show bHi s place st j = bif hsB s (j : Int) then (bif (j : Int) == place then 0 else (spAt st j).hi) else 0 from rfl)
              have EC := Lib.hid (show bKs s place j = bif hsB s (j : Int) then (bif (j : Int) == place then -1 else 0) else 0 from rfl)
              cases e1 : hsB s (j : Int)
              · rw [e1] at EA EB EC
                go_wp2_with (go_at_call 86; refine (refHasB_c s (j : Int) _ hs6 (by omega)).mono ?_; rw [e1]; rintro e w' ⟨rfl, rfl⟩)
                refine ⟨⟨j + 1, by omega, by simp, ?_, ?_, ?_, by (repeat first | with_reducible assumption | with_reducible exact Below.refl _ _ | (with_reducible refine Below.alloc ?_ ?side _; case side => (first | omega | (with_reducible exact Below.size (by assumption)) | (simp; done) | (simp; omega))) | (with_reducible refine Below.setCell ?_ ?side _; case side => (first | omega | (with_reducible exact Below.size (by assumption)) | (simp; done) | (simp; omega))) | with_reducible refine Below.drew ?_ | with_reducible refine below_drewN ?_ _ | (with_reducible refine below_step (by assumption) ?side ?_; case side => (first | omega | (with_reducible exact Below.size (by assumption)) | (simp; done) | (simp; omega))))⟩, by simp [intOf]; omega⟩
                · rw [SA.out, EA.out]; simp
                · rw [SB.out, EB.out]; simp
                · rw [SC.out, EC.out]; simp
              · cases e2 : ((j : Int) == place)
                all_goals
                  rw [e1, e2] at EA EB EC
                  go_wp2_with (go_at_call 86; refine (refHasB_c s (j : Int) _ hs6 (by omega)).mono ?_; rw [e1]; rintro e w' ⟨rfl, rfl⟩)
                  try (go_quiet (fail))
                  try (go_wp2_with fail)
                  refine ⟨⟨j + 1, by omega, by simp, ?_, ?_, ?_, by (repeat first | with_reducible assumption | with_reducible exact Below.refl _ _ | (with_reducible refine Below.alloc ?_ ?side _; case side => (first | omega | (with_reducible exact Below.size (by assumption)) | (simp; done) | (simp; omega))) | (with_reducible refine Below.setCell ?_ ?side _; case side => (first | omega | (with_reducible exact Below.size (by assumption)) | (simp; done) | (simp; omega))) | with_reducible refine Below.drew ?_ | with_reducible refine below_drewN ?_ _ | (with_reducible refine below_step (by assumption) ?side ?_; case side => (first | omega | (with_reducible exact Below.size (by assumption)) | (simp; done) | (simp; omega))))⟩, by simp [intOf]; omega⟩
                  · rw [SA.out, EA.out]; simp
                  · rw [SB.out, EB.out]; simp
                  · rw [SC.out, EC.out]; simp
                    try omega
            · obtain rfl : n = j := by omega
              have hjB : decide ((n : Int) < n) = false := by simp
              have HM1 := Lib.hid (HM.out.later hbo)
              go_wp2_with fail
              clear y0 y1 yf yc0 yc1 ycf lo lo' HM hbw zo m0 hbo
              obtain ⟨wp, rfl⟩ : ∃ wp : World, wp = wr := ⟨_, rfl⟩
              have lo := HM1.out.lt
              go_loopw [10, 11, 12, 14] (fun a' b' c' i (ws : World) => ∃ j : Nat, j ≤ m ∧ i = .int .i64 j ∧ a' = .int .i64 (a + sumF (pLo s free pp) j) ∧ b' = .int .i64 (b + sumF (pHi s free pp) j) ∧ c' = .int .i64 (c + sumF (pKs s free pp) j) ∧ Below wp.heap.size wp ws) (fun _ _ _ i _ => m - (intOf i).toNat)
              case atStart => exact ⟨0, by omega, rfl, by simp [sumF], by simp [sumF], by simp [sumF], Below.refl _ _⟩
              case round =>
                obtain ⟨j, hj, rfl, rfl, rfl, rfl, hbo⟩ := hrel
                obtain ⟨y0, y1, yf, yc0, yc1, ycf, lo'⟩ := HM1.out.later hbo
                have zo := hbo.size
                have m0 : w.heap.size < wr.heap.size := by omega
                obtain ⟨d, hd⟩ : ∃ d, sumF (pLo s free pp) j = d := ⟨_, rfl⟩
                obtain ⟨e, he⟩ : ∃ e, sumF (pHi s free pp) j = e := ⟨_, rfl⟩
                obtain ⟨f, hf⟩ : ∃ f, sumF (pKs s free pp) j = f := ⟨_, rfl⟩
                have bd := PL.out j
                have be := PH.out j
                have bf := PK.out j
                rw [hd] at bd ⊢
                rw [he] at be ⊢
                rw [hf] at bf ⊢
                have SD := Lib.hid (show sumF (pLo s free pp) (j + 1) = d + pLo s free pp j by rw [← hd]; rfl)
                have SE := Lib.hid (show sumF (pHi s free pp) (j + 1) = e + pHi s free pp j by rw [← he]; rfl)
                have SF := Lib.hid (show sumF (pKs s free pp) (j + 1) = f + pKs s free pp j by rw [← hf]; rfl)
                replace hd := Lib.hid hd
                replace he := Lib.hid he
                replace hf := Lib.hid hf
                have hbww' : Below w.heap.size w wr := by (repeat first | with_reducible assumption | with_reducible exact Below.refl _ _ | (with_reducible refine Below.alloc ?_ ?side _; case side => (first | omega | (with_reducible exact Below.size (by assumption)) | (simp; done) | (simp; omega))) | (with_reducible refine Below.setCell ?_ ?side _; case side => (first | omega | (with_reducible exact Below.size (by assumption)) | (simp; done) | (simp; omega))) | with_reducible refine Below.drew ?_ | with_reducible refine below_drewN ?_ _ | (with_reducible refine below_step (by assumption) ?side ?_; case side => (first | omega | (with_reducible exact Below.size (by assumption)) | (simp; done) | (simp; omega))))
                by_cases hjm : j < m
                · have hjmB : decide ((j : Int) < m) = true := by simp; omega
                  obtain ⟨bs, os, rfl, hbs, v0, v1, v2, v3⟩ := (HPI.out.later hbww').get hjm
                  have ys := HK.out.pp j
                  obtain ⟨q, hq⟩ : ∃ q, ppAt pp j = q := ⟨_, rfl⟩
                  rw [hq] at v0 v1 v2 v3 ys
                  have s1 : IntKind.i64.wrap (a + d - q.hi) = a + d - q.hi := IntWalk.i64_in _ (by omega)
                  have s2 : IntKind.i64.wrap (b + e - q.lo) = b + e - q.lo := IntWalk.i64_in _ (by omega)
                  have s3 : IntKind.i64.wrap (c + f - 1) = c + f - 1 := IntWalk.i64_in _ (by omega)
                  have s4 : IntKind.i64.wrap (c + f + 1) = c + f + 1 := IntWalk.i64_in _ (by omega)
                  have s5 : IntKind.i64.wrap (a + d + q.lo) = a + d + q.lo := IntWalk.i64_in _ (by omega)
                  have s6 : IntKind.i64.wrap (b + e + q.hi) = b + e + q.hi := IntWalk.i64_in _ (by omega)
                  have EA := Lib.hid (show pLo s free pp j = bif hsB s q.to == hsB s q.fr then 0 else bif (j : Int) == free then 0 else bif hsB s q.to then -q.hi else q.lo by rw [← hq]; rfl)
                  have EB := Lib.hid (show pHi s free pp j = bif hsB s q.to == hsB s q.fr then 0 else bif (j : Int) == free then 0 else bif hsB s q.to then -q.lo else q.hi by rw [← hq]; rfl)
                  have EC := Lib.hid (show pKs s free pp j = bif hsB s q.to == hsB s q.fr then 0 else bif (j : Int) == free then (bif hsB s q.to then 1 else -1) else 0 by rw [← hq]; rfl)
                  clear hq
                  go_wp2_with fail
                  go_name_world W5 hW5
                  have hb5 : Below wr.heap.size wr W5 := by rw [← hW5]; (repeat first | with_reducible assumption | with_reducible exact Below.refl _ _ | (with_reducible refine Below.alloc ?_ ?side _; case side => (first | omega | (with_reducible exact Below.size (by assumption)) | (simp; done) | (simp; omega))) | (with_reducible refine Below.setCell ?_ ?side _; case side => (first | omega | (with_reducible exact Below.size (by assumption)) | (simp; done) | (simp; omega))) | with_reducible refine Below.drew ?_ | with_reducible refine below_drewN ?_ _ | (with_reducible refine below_step (by assumption) ?side ?_; case side => (first | omega | (with_reducible exact Below.size (by assumption)) | (simp; done) | (simp; omega))))
                  have u0 : ∀ j, W5.cell? ⟨wr.heap.size, j, none⟩ = #[Value.int .i64 q.fr, .int .i64 q.to, .int .i64 q.lo, .int .i64 q.hi][j]? := fun j => by rw [← hW5]; exact World.cell?_alloc_new _ _ _ j
                  have z5 : wr.heap.size < W5.heap.size := by rw [← hW5]; simp
                  clear hW5 y0 y1 yf yc0 yc1 ycf lo' v0 v1 v2 v3
                  have hb6 : Below wp.heap.size wp W5 := by (repeat first | with_reducible assumption | with_reducible exact Below.refl _ _ | (with_reducible refine Below.alloc ?_ ?side _; case side => (first | omega | (with_reducible exact Below.size (by assumption)) | (simp; done) | (simp; omega))) | (with_reducible refine Below.setCell ?_ ?side _; case side => (first | omega | (with_reducible exact Below.size (by assumption)) | (simp; done) | (simp; omega))) | with_reducible refine Below.drew ?_ | with_reducible refine below_drewN ?_ _ | (with_reducible refine below_step (by assumption) ?side ?_; case side => (first | omega | (with_reducible exact Below.size (by assumption)) | (simp; done) | (simp; omega))))
                  cases e1 : hsB s q.to <;> cases e2 : hsB s q.fr
                  · skip
                    rw [e1, e2] at EA EB EC
                    have hT := Lib.hid (fun W => refHasB_c s q.to W hs6 (by omega))
                    have hF := Lib.hid (fun W => refHasB_c s q.fr W hs6 (by omega))
                    rw [e1] at hT
                    rw [e2] at hF
                    go_quiet ((go_at_call 86; first | with_reducible exact quiet_left (hT.out _) | with_reducible exact quiet_left (hF.out _)))
                    go_wp2_with fail
                    refine ⟨⟨j + 1, by omega, by simp, ?_, ?_, ?_, by (repeat first | with_reducible assumption | with_reducible exact Below.refl _ _ | (with_reducible refine Below.alloc ?_ ?side _; case side => (first | omega | (with_reducible exact Below.size (by assumption)) | (simp; done) | (simp; omega))) | (with_reducible refine Below.setCell ?_ ?side _; case side => (first | omega | (with_reducible exact Below.size (by assumption)) | (simp; done) | (simp; omega))) | with_reducible refine Below.drew ?_ | with_reducible refine below_drewN ?_ _ | (with_reducible refine below_step (by assumption) ?side ?_; case side => (first | omega | (with_reducible exact Below.size (by assumption)) | (simp; done) | (simp; omega))))⟩, by simp [intOf]; omega⟩
                    · rw [SD.out, EA.out]; first | (simp; done) | (simp; omega)
                    · rw [SE.out, EB.out]; first | (simp; done) | (simp; omega)
                    · rw [SF.out, EC.out]; first | (simp; done) | (simp; omega)
                  · cases e3 : ((j : Int) == free)
                    all_goals
                      rw [e1, e2] at EA EB EC
                      have hT := Lib.hid (fun W => refHasB_c s q.to W hs6 (by omega))
                      have hF := Lib.hid (fun W => refHasB_c s q.fr W hs6 (by omega))
                      rw [e1] at hT
                      rw [e2] at hF
                      go_quiet ((go_at_call 86; first | with_reducible exact quiet_left (hT.out _) | with_reducible exact quiet_left (hF.out _)))
                      go_wp2_with fail
                      try (go_quiet (fail))
                      try (go_wp2_with fail)
                      rw [e3] at EA EB EC
                      refine ⟨⟨j + 1, by omega, by simp, ?_, ?_, ?_, by (repeat first | with_reducible assumption | with_reducible exact Below.refl _ _ | (with_reducible refine Below.alloc ?_ ?side _; case side => (first | omega | (with_reducible exact Below.size (by assumption)) | (simp; done) | (simp; omega))) | (with_reducible refine Below.setCell ?_ ?side _; case side => (first | omega | (with_reducible exact Below.size (by assumption)) | (simp; done) | (simp; omega))) | with_reducible refine Below.drew ?_ | with_reducible refine below_drewN ?_ _ | (with_reducible refine below_step (by assumption) ?side ?_; case side => (first | omega | (with_reducible exact Below.size (by assumption)) | (simp; done) | (simp; omega))))⟩, by simp [intOf]; omega⟩
                      · rw [SD.out, EA.out]; first | (simp; done) | (simp; omega)
                      · rw [SE.out, EB.out]; first | (simp; done) | (simp; omega)
                      · rw [SF.out, EC.out]; first | (simp; done) | (simp; omega)
                  · cases e3 : ((j : Int) == free)
                    all_goals
                      rw [e1, e2] at EA EB EC
                      have hT := Lib.hid (fun W => refHasB_c s q.to W hs6 (by omega))
                      have hF := Lib.hid (fun W => refHasB_c s q.fr W hs6 (by omega))
                      rw [e1] at hT
                      rw [e2] at hF
                      go_quiet ((go_at_call 86; first | with_reducible exact quiet_left (hT.out _) | with_reducible exact quiet_left (hF.out _)))
                      go_wp2_with fail
                      try (go_quiet (fail))
                      try (go_wp2_with fail)
                      rw [e3] at EA EB EC
                      refine ⟨⟨j + 1, by omega, by simp, ?_, ?_, ?_, by (repeat first | with_reducible assumption | with_reducible exact Below.refl _ _ | (with_reducible refine Below.alloc ?_ ?side _; case side => (first | omega | (with_reducible exact Below.size (by assumption)) | (simp; done) | (simp; omega))) | (with_reducible refine Below.setCell ?_ ?side _; case side => (first | omega | (with_reducible exact Below.size (by assumption)) | (simp; done) | (simp; omega))) | with_reducible refine Below.drew ?_ | with_reducible refine below_drewN ?_ _ | (with_reducible refine below_step (by assumption) ?side ?_; case side => (first | omega | (with_reducible exact Below.size (by assumption)) | (simp; done) | (simp; omega))))⟩, by simp [intOf]; omega⟩
                      · rw [SD.out, EA.out]; first | (simp; done) | (simp; omega)
                      · rw [SE.out, EB.out]; first | (simp; done) | (simp; omega)
                      · rw [SF.out, EC.out]; first | (simp; done) | (simp; omega)
                  · skip
                    rw [e1, e2] at EA EB EC
                    have hT := Lib.hid (fun W => refHasB_c s q.to W hs6 (by omega))
                    have hF := Lib.hid (fun W => refHasB_c s q.fr W hs6 (by omega))
                    rw [e1] at hT
                    rw [e2] at hF
                    go_quiet ((go_at_call 86; first | with_reducible exact quiet_left (hT.out _) | with_reducible exact quiet_left (hF.out _)))
                    go_wp2_with fail
                    refine ⟨⟨j + 1, by omega, by simp, ?_, ?_, ?_, by (repeat first | with_reducible assumption | with_reducible exact Below.refl _ _ | (with_reducible refine Below.alloc ?_ ?side _; case side => (first | omega | (with_reducible exact Below.size (by assumption)) | (simp; done) | (simp; omega))) | (with_reducible refine Below.setCell ?_ ?side _; case side => (first | omega | (with_reducible exact Below.size (by assumption)) | (simp; done) | (simp; omega))) | with_reducible refine Below.drew ?_ | with_reducible refine below_drewN ?_ _ | (with_reducible refine below_step (by assumption) ?side ?_; case side => (first | omega | (with_reducible exact Below.size (by assumption)) | (simp; done) | (simp; omega))))⟩, by simp [intOf]; omega⟩
                    · rw [SD.out, EA.out]; first | (simp; done) | (simp; omega)
                    · rw [SE.out, EB.out]; first | (simp; done) | (simp; omega)
                    · rw [SF.out, EC.out]; first | (simp; done) | (simp; omega)
                · obtain rfl : m = j := by omega
                  have hjmB : decide ((m : Int) < m) = false := by simp
                  have HMr := Lib.hid (HM1.out.later hbo)
                  have eL : Hid (loR m n pp st free place s = a + d) := by have := ha.out; have := hd.out; show _ = _; simp only [loR]; omega
                  have eH : Hid (hiR m n pp st free place s = b + e) := by have := hb.out; have := he.out; show _ = _; simp only [hiR]; omega
                  have eK : Hid (ksR m n pp free place s = c + f) := by have := hcc.out; have := hf.out; show _ = _; simp only [ksR]; omega
                  have rL := Lib.hid (show -220000 ≤ a + d ∧ a + d ≤ 220000 ∧ -220000 ≤ b + e ∧ b + e ≤ 220000 ∧ -220000 ≤ c + f ∧ c + f ≤ 220000 by omega)
                  obtain ⟨lo1, hlo1⟩ : ∃ x, a + d = x := ⟨_, rfl⟩
                  obtain ⟨hi1, hhi1⟩ : ∃ x, b + e = x := ⟨_, rfl⟩
                  obtain ⟨ks1, hks1⟩ : ∃ x, c + f = x := ⟨_, rfl⟩
                  rw [hlo1] at eL rL ⊢
                  rw [hhi1] at eH rL ⊢
                  rw [hks1] at eK rL ⊢
                  clear hlo1 hhi1 hks1 ba bb bc bd be bf BL BH BK PL PH PK ha hb hcc hd he hf SA SB SC SD SE SF
                  obtain ⟨rl1, rl2, rl3, rl4, rl5, rl6⟩ := rL.out
                  have hnb : Hid (ksR m n pp free place s ≠ 0 ∨ (loR m n pp st free place s ≤ 0 ∧ 0 ≤ hiR m n pp st free place s) → badR m n pp st free place s = false) := fun h => by
                    rcases h with h | ⟨h, h'⟩
                    · simp [badR, h]
                    · simp [badR]; omega
                  have hn1 : w.heap.size + 1 < wr.heap.size := by omega
                  have hNs : Hid (badR m n pp st free place s = false → ∀ j, j < k + 1 → badR m n pp st free place (j + 1) = false) := fun h j hj => by
                    rcases Nat.lt_succ_iff_lt_or_eq.1 hj with h' | rfl
                    · exact HN.out j h'
                    · rw [← hsk.out]; exact h
                  have oS : Hid (outR m n pp st free place (k + 1) = stepR ks1 lo1 hi1 o) := by
                    show _ = _
                    rw [outR, ← hsk.out, eK.out, eL.out, eH.out, HOO.out]
                  have n1 : IntKind.i64.wrap (-lo1) = -lo1 := IntWalk.i64_in _ (by omega)
                  have n2 : IntKind.i64.wrap (-hi1) = -hi1 := IntWalk.i64_in _ (by omega)
                  rcases (by omega : 0 < ks1 ∨ ks1 < 0 ∨ ks1 = 0) with hk1 | hk1 | hk1
                  · have hkB : decide ((0 : Int) < ks1) = true := by simp; omega
                    have oE : stepR ks1 lo1 hi1 o = ⟨if o.lo < lo1 then lo1 else o.lo, if hi1 < o.hi then hi1 else o.hi⟩ := by
                      simp only [stepR, hkB, cond_true]
                      congr 1
                      · split <;> omega
                      · split <;> omega
                    replace oE := Lib.hid oE
                    go_wp2_with fail
                    all_goals
                      refine ⟨⟨k + 1, s + 1, by have := hsk.out; omega, by have := hsk.out; omega, by simp, hNs.out (hnb.out (.inl (by rw [eK.out]; omega))), ?_, by (repeat first | with_reducible assumption | with_reducible exact Below.refl _ _ | (with_reducible refine Below.alloc ?_ ?side _; case side => (first | omega | (with_reducible exact Below.size (by assumption)) | (simp; done) | (simp; omega))) | (with_reducible refine Below.setCell ?_ ?side _; case side => (first | omega | (with_reducible exact Below.size (by assumption)) | (simp; done) | (simp; omega))) | with_reducible refine Below.drew ?_ | with_reducible refine below_drewN ?_ _ | (with_reducible refine below_step (by assumption) ?side ?_; case side => (first | omega | (with_reducible exact Below.size (by assumption)) | (simp; done) | (simp; omega))))⟩, by simp [intOf]; omega⟩
                      rw [oS.out, oE.out]
                      first
                        | exact HMr.out.set _ _
                        | (simp only [*, if_true, if_false]; exact HMr.out.set _ _)
                  · have hkB : decide ((0 : Int) < ks1) = false := by simp; omega
                    have hkC : decide (ks1 < (0 : Int)) = true := by simp; omega
                    have oE : stepR ks1 lo1 hi1 o = ⟨if o.lo < -hi1 then -hi1 else o.lo, if -lo1 < o.hi then -lo1 else o.hi⟩ := by
                      simp only [stepR, hkB, hkC, cond_true, cond_false]
                      congr 1
                      · split <;> omega
                      · split <;> omega
                    replace oE := Lib.hid oE
                    go_wp2_with fail
                    all_goals
                      refine ⟨⟨k + 1, s + 1, by have := hsk.out; omega, by have := hsk.out; omega, by simp, hNs.out (hnb.out (.inl (by rw [eK.out]; omega))), ?_, by (repeat first | with_reducible assumption | with_reducible exact Below.refl _ _ | (with_reducible refine Below.alloc ?_ ?side _; case side => (first | omega | (with_reducible exact Below.size (by assumption)) | (simp; done) | (simp; omega))) | (with_reducible refine Below.setCell ?_ ?side _; case side => (first | omega | (with_reducible exact Below.size (by assumption)) | (simp; done) | (simp; omega))) | with_reducible refine Below.drew ?_ | with_reducible refine below_drewN ?_ _ | (with_reducible refine below_step (by assumption) ?side ?_; case side => (first | omega | (with_reducible exact Below.size (by assumption)) | (simp; done) | (simp; omega))))⟩, by simp [intOf]; omega⟩
                      rw [oS.out, oE.out]
                      first
                        | exact HMr.out.set _ _
                        | (simp only [*, if_true, if_false]; exact HMr.out.set _ _)
                  · subst hk1
                    have oE := Lib.hid (show stepR 0 lo1 hi1 o = o from rfl)
                    by_cases hbad : 0 < lo1 ∨ hi1 < 0
                    · have hB : Hid (anyBad m n pp st free place = true) := by
                        refine anyN_yes (k := k) (by have := hsk.out; have := HM2.out; omega) ?_
                        simp only [badR, ← hsk.out, eK.out, eL.out, eH.out]
                        simp; omega
                      have tS := two_set (v0 := Value.int .i64 0) (v1 := Value.int .i64 0) y1
                      have fin : ∀ W9, (wr.setCell ⟨w.heap.size + 1, 0, none⟩ (Value.int .i64 0)).setCell ⟨w.heap.size + 1, 1, none⟩ (Value.int .i64 0) = W9 → Below w.heap.size w W9 ∧ ∀ j, W9.cell? ⟨w.heap.size + 1, j, none⟩ = #[Value.int .i64 0, .int .i64 0][j]? := fun W9 h => by rw [← h]; exact ⟨by (repeat first | with_reducible assumption | with_reducible exact Below.refl _ _ | (with_reducible refine Below.alloc ?_ ?side _; case side => (first | omega | (with_reducible exact Below.size (by assumption)) | (simp; done) | (simp; omega))) | (with_reducible refine Below.setCell ?_ ?side _; case side => (first | omega | (with_reducible exact Below.size (by assumption)) | (simp; done) | (simp; omega))) | with_reducible refine Below.drew ?_ | with_reducible refine below_drewN ?_ _ | (with_reducible refine below_step (by assumption) ?side ?_; case side => (first | omega | (with_reducible exact Below.size (by assumption)) | (simp; done) | (simp; omega)))), tS⟩
                      replace fin := Lib.hid fin
                      clear tS
                      rcases (by omega : 0 < lo1 ∨ (¬ 0 < lo1 ∧ hi1 < 0)) with hb1 | ⟨hb0, hb1⟩
                      · have hD : decide ((0 : Int) < lo1) = true := by simp; omega
                        go_wp2_with fail
                        generalize hW9 : (wr.setCell ⟨w.heap.size + 1, 0, none⟩ (Value.int .i64 0)).setCell ⟨w.heap.size + 1, 1, none⟩ (Value.int .i64 0) = W9
                        obtain ⟨f1, f2⟩ := fin.out W9 hW9
                        exact bodyPost_ret (v := .tuple #[.agg #[.int .i64 0, .int .i64 0], .bool false]) (by simp [results, Try.results77, go_sem, f2]) rfl ⟨by simp only [bndS, bndB, hB.out, cond_true, Bool.not_true, Bool.false_and], f1⟩
                      · have hD : decide ((0 : Int) < lo1) = false := by simp; omega
                        have hE : decide (hi1 < (0 : Int)) = true := by simp; omega
                        go_wp2_with fail
                        generalize hW9 : (wr.setCell ⟨w.heap.size + 1, 0, none⟩ (Value.int .i64 0)).setCell ⟨w.heap.size + 1, 1, none⟩ (Value.int .i64 0) = W9
                        obtain ⟨f1, f2⟩ := fin.out W9 hW9
                        exact bodyPost_ret (v := .tuple #[.agg #[.int .i64 0, .int .i64 0], .bool false]) (by simp [results, Try.results77, go_sem, f2]) rfl ⟨by simp only [bndS, bndB, hB.out, cond_true, Bool.not_true, Bool.false_and], f1⟩
                    · have hD : decide ((0 : Int) < lo1) = false := by simp; omega
                      have hE : decide (hi1 < (0 : Int)) = false := by simp; omega
                      go_wp2_with fail
                      refine ⟨⟨k + 1, s + 1, by have := hsk.out; omega, by have := hsk.out; omega, by simp, hNs.out (hnb.out (.inr (by rw [eL.out, eH.out]; omega))), ?_, by (repeat first | with_reducible assumption | with_reducible exact Below.refl _ _ | (with_reducible refine Below.alloc ?_ ?side _; case side => (first | omega | (with_reducible exact Below.size (by assumption)) | (simp; done) | (simp; omega))) | (with_reducible refine Below.setCell ?_ ?side _; case side => (first | omega | (with_reducible exact Below.size (by assumption)) | (simp; done) | (simp; omega))) | with_reducible refine Below.drew ?_ | with_reducible refine below_drewN ?_ _ | (with_reducible refine below_step (by assumption) ?side ?_; case side => (first | omega | (with_reducible exact Below.size (by assumption)) | (simp; done) | (simp; omega))))⟩, by simp [intOf]; omega⟩
                      rw [oS.out, oE.out]
                      exact HMr.out
        · have hltB : decide ((s : Int) < M) = false := by simp; omega
          have hsM : s = M := by have := hsk.out; omega
          have hn1 : w.heap.size + 1 < wr.heap.size := by omega
          have hkM : 2 ^ n - 1 = k := by have := HM2.out; have := hsk.out; omega
          have hA : anyBad m n pp st free place = false := by
            refine anyN_no fun j hj => HN.out j (by omega)
          have eS : bndS m n pp st free place = o := by rw [bndS, hA, cond_false, hkM, HOO.out]
          have eB : bndB m n pp st free place = decide (o.lo ≤ o.hi) := by rw [bndB, hA, hkM, HOO.out]; rfl
          have tS := two_set (v0 := Value.int .i64 o.lo) (v1 := Value.int .i64 o.hi) y1
          have fin : ∀ W9, (wr.setCell ⟨w.heap.size + 1, 0, none⟩ (Value.int .i64 o.lo)).setCell ⟨w.heap.size + 1, 1, none⟩ (Value.int .i64 o.hi) = W9 → Below w.heap.size w W9 ∧ ∀ j, W9.cell? ⟨w.heap.size + 1, j, none⟩ = #[Value.int .i64 o.lo, .int .i64 o.hi][j]? := fun W9 h => by rw [← h]; exact ⟨by (repeat first | with_reducible assumption | with_reducible exact Below.refl _ _ | (with_reducible refine Below.alloc ?_ ?side _; case side => (first | omega | (with_reducible exact Below.size (by assumption)) | (simp; done) | (simp; omega))) | (with_reducible refine Below.setCell ?_ ?side _; case side => (first | omega | (with_reducible exact Below.size (by assumption)) | (simp; done) | (simp; omega))) | with_reducible refine Below.drew ?_ | with_reducible refine below_drewN ?_ _ | (with_reducible refine below_step (by assumption) ?side ?_; case side => (first | omega | (with_reducible exact Below.size (by assumption)) | (simp; done) | (simp; omega)))), tS⟩
          replace fin := Lib.hid fin
          have RT : Hid (Value.tuple #[.agg #[.int .i64 (bndS m n pp st free place).lo, .int .i64 (bndS m n pp st free place).hi], .bool (bndB m n pp st free place)] = .tuple #[.agg #[.int .i64 o.lo, .int .i64 o.hi], .bool (decide (o.lo ≤ o.hi))]) := by
            show _ = _
            rw [eS, eB]
          replace hsM := Lib.hid hsM
          clear tS eS eB hA hkM
          cases eC : decide (o.lo ≤ o.hi)
          all_goals
            rw [eC] at RT
            go_wp2_with fail
            try go_region
            try go_wp2_with fail
            generalize hW9 : ((wr.setCell ⟨w.heap.size + 1, 0, none⟩ (Value.int .i64 o.lo)).setCell ⟨w.heap.size + 1, 1, none⟩ (Value.int .i64 o.hi)).drew = W9
            have f1 : Below w.heap.size w W9 := by rw [← hW9]; exact Below.drew (fin.out _ rfl).1
            have f2 : ∀ j, W9.cell? ⟨w.heap.size + 1, j, none⟩ = #[Value.int .i64 o.lo, .int .i64 o.hi][j]? := fun j => by rw [← hW9]; exact (fin.out _ rfl).2 j
            clear hW9
            refine bodyPost_ret (v := .tuple #[.agg #[.int .i64 o.lo, .int .i64 o.hi], .bool _]) (by simp [results, Try.results77, go_sem, f2]; rfl) rfl ⟨by rw [RT.out], f1⟩

end Go.Proofs.Ytoehifincdflhaa
