/- A chain that the call itself makes; Copy of the specification; Far of the statements (layer 2). -/
import Derived.Test.YtdhlnlmhdacblaaTl46
import Derived.Handy
import Derived.Deep.DrawnRows
import Derived.Deep.DeepCutAuto
import Derived.OrdersHeld
import Derived.Deep.RegionHeld
import Derived.Deep.RegionLaw
namespace Go.Proofs.Ytdhlnlmhdacblaa
open Go.RowKit
open Go.Sort (grow)
set_option linter.unusedVariables false
set_option linter.unusedSimpArgs false

theorem ddE : ElemT Try.prog 39 50 5 40 := by
  obtain ⟨i0, hi0, hz0, hz1, hz2⟩ := info_parts (P := Try.prog) (show (Try.prog.info? 50).map (fun i => (i.zero, i.size, i.bytes)) = some (some (.agg #[.int .i64 0, .int .i64 0, .int .i64 0, .int .i64 0, .int .i64 0]), 5, 40) by kernel_rfl)
  exact ⟨Try.underlying39, ⟨i0, _, hi0, hz0, hz1, hz2, rfl⟩, by omega, by omega⟩
theorem sgE : ElemT Try.prog 40 78 5 40 := by
  obtain ⟨i0, hi0, hz0, hz1, hz2⟩ := info_parts (P := Try.prog) (show (Try.prog.info? 78).map (fun i => (i.zero, i.size, i.bytes)) = some (some (.agg #[.int .i64 0, .int .i64 0, .int .i64 0, .int .i64 0, .int .i64 0]), 5, 40) by kernel_rfl)
  exact ⟨Try.underlying40, ⟨i0, _, hi0, hz0, hz1, hz2, rfl⟩, by omega, by omega⟩
/-- a chain that the call itself has made -/
structure ChOwn (base np nl : Nat) (A1 A2 : Option Addr) (c1 c2 : Nat) (pl ls : List Dd) (w : World) : Prop where
  hp : w.ownsRow base 50 5 (.slice A1 np c1) np (pl.flatMap encD)
  hl : w.ownsRow base 78 5 (.slice A2 nl c2) nl (ls.flatMap encD)
  ne : ∀ k, (Value.slice A1 np c1).ownBlock = some k → (Value.slice A2 nl c2).ownBlock = some k → False

set_option maxRecDepth 100000 in
set_option maxHeartbeats 3200000 in
theorem Copy2_c (Ap Al : Option Addr) (np cp nl cl : Nat) (wrg : Int) (pl ls : List Dd) (w : World) (hp : np ≤ 40) (hl : nl ≤ 40) (HP : DdsAt w Ap np pl) (HL : DdsAt w Al nl ls) :
    Calls Try.prog 15 #[.agg #[.slice Ap np cp, .slice Al nl cl, .int .i64 wrg]] w
      fun e w' => ∃ A1 c1 A2 c2, e = .returned (.agg #[.slice A1 np c1, .slice A2 nl c2, .int .i64 wrg]) ∧ ChOwn w.heap.size np nl A1 A2 c1 c2 pl ls w' ∧ Below w.heap.size w w' := by
  have HPI := Lib.hid HP
  have HLI := Lib.hid HL
  clear HP HL
  go_enter Try.func15, Try.ntmps15
  go_wp2
  go_name_world W hW
  obtain ⟨hB, hz⟩ := al3 hW
  obtain ⟨l_0, q_0, f_0⟩ := al3_0 hW
  obtain ⟨l_1, q_1, f_1⟩ := al3_1 hW
  obtain ⟨l_2, q_2, f_2⟩ := al3_2 hW
  have HZ := Lib.hid hz
  have zs := hB.size
  clear hW hz
  go_region_held3 (fun w' => w'.cell? ⟨w.heap.size, 0, none⟩ = some (.slice Ap np cp) ∧ w'.cell? ⟨w.heap.size, 1, none⟩ = some (.slice Al nl cl))
    (first | exact ⟨q_0 0, q_0 1⟩ | exact ⟨(hb12.cell (p := ⟨w.heap.size, 0, none⟩) l_0).trans (q_0 0), (hb12.cell (p := ⟨w.heap.size, 1, none⟩) l_0).trans (q_0 1)⟩ | exact ⟨(hb8.cell (p := ⟨w.heap.size, 0, none⟩) l_0).trans (q_0 0), (hb8.cell (p := ⟨w.heap.size, 1, none⟩) l_0).trans (q_0 1)⟩ | (refine ⟨?_, ?_⟩ <;> (repeat first | exact (hb12.cell (p := ⟨w.heap.size, 0, none⟩) l_0).trans (q_0 0) | exact (hb12.cell (p := ⟨w.heap.size, 1, none⟩) l_0).trans (q_0 1) | refine (World.cell?_setCell_other _ _ _ _ (by simp)).trans ?_); done) | go_keep)
    (first
      | ((refine step_append_E _ (d := (⟨0, 0, 0, 0, 0⟩ : Dd)) rfl (.tmp 5) (.tmp 7) _ rfl W.heap.size W _ 5 40 ddE encD_len encD_one _ (by rfl) ?ow Ap np cp pl (by rfl) ?sl (by omega) ?bl (Nat.le_refl _) ?_); (case ow => (repeat first | with_reducible refine World.ownsRow.drew ?_ | exact own_empty (Nat.le_refl _) rfl | exact own_empty (by omega) rfl | exact own_empty (by first | omega | (simp; done) | (simp; omega)) (by simp) | with_reducible refine World.ownsRow.alloc ?_ _ | (refine World.ownsRow.kept ?_ hg8 (.inr (by (simp [Value.ownBlock] <;> omega)))))); (case bl => (repeat first | with_reducible assumption | with_reducible exact Below.refl _ _ | (with_reducible refine Below.alloc ?_ ?side _; case side => (first | omega | (with_reducible exact Below.size (by assumption)) | (simp; done) | (simp; omega))) | (with_reducible refine Below.setCell ?_ ?side _; case side => (first | omega | (with_reducible exact Below.size (by assumption)) | (simp; done) | (simp; omega))) | with_reducible refine Below.drew ?_ | with_reducible refine below_drewN ?_ _ | (with_reducible refine below_step (by assumption) ?side ?_; case side => (first | omega | (with_reducible exact Below.size (by assumption)) | (simp; done) | (simp; omega))))); (case sl => exact HPI.out.later (by (repeat first | with_reducible assumption | with_reducible exact Below.refl _ _ | (with_reducible refine Below.alloc ?_ ?side _; case side => (first | omega | (with_reducible exact Below.size (by assumption)) | (simp; done) | (simp; omega))) | (with_reducible refine Below.setCell ?_ ?side _; case side => (first | omega | (with_reducible exact Below.size (by assumption)) | (simp; done) | (simp; omega))) | with_reducible refine Below.drew ?_ | with_reducible refine below_drewN ?_ _ | (with_reducible refine below_step (by assumption) ?side ?_; case side => (first | omega | (with_reducible exact Below.size (by assumption)) | (simp; done) | (simp; omega)))))); intro A8 C8 w8 ho8 hg8 ha8 hb8; have z8 := hg8.size; (try simp at z8); have m8 : w.heap.size + 1 + 1 < w8.heap.size := (by omega); have c8_0 := (hb8.cell (p := ⟨w.heap.size + 1 + 1, 0, none⟩) l_2).trans (q_2 0); have c8_1 := (hb8.cell (p := ⟨w.heap.size + 1 + 1, 1, none⟩) l_2).trans (q_2 1); have c8_2 := (hb8.cell (p := ⟨w.heap.size + 1 + 1, 2, none⟩) l_2).trans (q_2 2); have f8 := fun i => (hb8.frozen (p := ⟨w.heap.size + 1 + 1, i, none⟩) l_2).trans (f_2 i))
      | ((refine step_append_E _ (d := (⟨0, 0, 0, 0, 0⟩ : Dd)) rfl (.tmp 9) (.tmp 11) _ rfl W.heap.size W _ 5 40 sgE encD_len encD_one _ (by rfl) ?ow Al nl cl ls (by rfl) ?sl (by omega) ?bl (Nat.le_refl _) ?_); (case ow => (repeat first | with_reducible refine World.ownsRow.drew ?_ | exact own_empty (Nat.le_refl _) rfl | exact own_empty (by omega) rfl | exact own_empty (by first | omega | (simp; done) | (simp; omega)) (by simp) | with_reducible refine World.ownsRow.alloc ?_ _ | (refine World.ownsRow.kept ?_ hg8 (.inr (by (simp [Value.ownBlock] <;> omega)))))); (case bl => (repeat first | with_reducible assumption | with_reducible exact Below.refl _ _ | (with_reducible refine Below.alloc ?_ ?side _; case side => (first | omega | (with_reducible exact Below.size (by assumption)) | (simp; done) | (simp; omega))) | (with_reducible refine Below.setCell ?_ ?side _; case side => (first | omega | (with_reducible exact Below.size (by assumption)) | (simp; done) | (simp; omega))) | with_reducible refine Below.drew ?_ | with_reducible refine below_drewN ?_ _ | (with_reducible refine below_step (by assumption) ?side ?_; case side => (first | omega | (with_reducible exact Below.size (by assumption)) | (simp; done) | (simp; omega))))); (case sl => exact HLI.out.later (by (repeat first | with_reducible assumption | with_reducible exact Below.refl _ _ | (with_reducible refine Below.alloc ?_ ?side _; case side => (first | omega | (with_reducible exact Below.size (by assumption)) | (simp; done) | (simp; omega))) | (with_reducible refine Below.setCell ?_ ?side _; case side => (first | omega | (with_reducible exact Below.size (by assumption)) | (simp; done) | (simp; omega))) | with_reducible refine Below.drew ?_ | with_reducible refine below_drewN ?_ _ | (with_reducible refine below_step (by assumption) ?side ?_; case side => (first | omega | (with_reducible exact Below.size (by assumption)) | (simp; done) | (simp; omega)))))); intro A12 C12 w12 ho12 hg12 ha12 hb12; have z12 := hg12.size; (try simp at z12); have m12 : w.heap.size + 1 + 1 < w12.heap.size := (by omega); have c12_0 := (hb12.cell (p := ⟨w.heap.size + 1 + 1, 0, none⟩) l_2).trans (q_2 0); have c12_1 := (hb12.cell (p := ⟨w.heap.size + 1 + 1, 1, none⟩) l_2).trans (q_2 1); have c12_2 := (hb12.cell (p := ⟨w.heap.size + 1 + 1, 2, none⟩) l_2).trans (q_2 2); have f12 := fun i => (hb12.frozen (p := ⟨w.heap.size + 1 + 1, i, none⟩) l_2).trans (f_2 i)))
  all_goals
    have NE : ∀ k, (Value.slice A8 np C8).ownBlock = some k → (Value.slice A12 nl C12).ownBlock = some k → False := by
      intro k h1 h2
      have a1 := (ho8.out.lt k h1).2
      rcases ha8 with h | h <;> rcases ha12 with h' | h' <;> (rw [h1] at h; rw [h2] at h'; simp at h h' <;> omega)
    have K8 : Hid (w12.ownsRow W.heap.size 50 5 (.slice A8 np C8) np (pl.flatMap encD)) := by
      first
        | refine ho8.out.kept hg12 (.inr fun e => ?_)
        | refine (ho8.out.alloc _).kept hg12 (.inr fun e => ?_)
      have a1 := (ho8.out.lt _ e).2
      rcases ha8 with h | h <;> (rw [e] at h; simp at h <;> omega)
    have NE8 := Lib.hid NE
    clear NE ha8 ha12 hg8 hg12 c8_0 c8_1 c8_2 f8
    have p1 := fun i => (hb12.cell (p := ⟨w.heap.size + 1, i, none⟩) l_1).trans (q_1 i)
    have g1 := fun i => (hb12.frozen (p := ⟨w.heap.size + 1, i, none⟩) l_1).trans (f_1 i)
    have n1 : w.heap.size + 1 < w12.heap.size := by omega
    go_wp2
    refine bodyPost_ret (v := .agg #[.slice A8 np C8, .slice A12 nl C12, .int .i64 wrg]) ?_ rfl ⟨A8, C8, A12, C12, rfl, ⟨?_, ?_, NE8.out⟩, ?_⟩
    · simp [results, Try.results15, go_sem, p1]
    · refine own_mono ?_ zs
      repeat first | with_reducible exact K8.out | refine own_set ?_ (fun k hk => by have := (K8.out.lt k hk).1; simp; omega)
    · refine own_mono ?_ zs
      repeat first | with_reducible exact ho12.out | refine own_set ?_ (fun k hk => by have := (ho12.out.lt k hk).1; simp; omega)
    · (repeat first | with_reducible assumption | with_reducible exact Below.refl _ _ | (with_reducible refine Below.alloc ?_ ?side _; case side => (first | omega | (with_reducible exact Below.size (by assumption)) | (simp; done) | (simp; omega))) | (with_reducible refine Below.setCell ?_ ?side _; case side => (first | omega | (with_reducible exact Below.size (by assumption)) | (simp; done) | (simp; omega))) | with_reducible refine Below.drew ?_ | with_reducible refine below_drewN ?_ _ | (with_reducible refine below_step (by assumption) ?side ?_; case side => (first | omega | (with_reducible exact Below.size (by assumption)) | (simp; done) | (simp; omega))))
theorem ChOwn.at_ {base np nl : Nat} {A1 A2 : Option Addr} {c1 c2 : Nat} {pl ls : List Dd} {w : World} (h : ChOwn base np nl A1 A2 c1 c2 pl ls w) (hp : pl.length = np) (hl : ls.length = nl) : DdsAt w A1 np pl ∧ DdsAt w A2 nl ls := by
  obtain ⟨_, _, e1, -, h1⟩ := SlAt.of_own (d := (⟨0, 0, 0, 0, 0⟩ : Dd)) encD_len h.hp hp
  obtain ⟨_, _, e2, -, h2⟩ := SlAt.of_own (d := (⟨0, 0, 0, 0, 0⟩ : Dd)) encD_len h.hl hl
  cases e1; cases e2
  exact ⟨h1, h2⟩
def FarRet2 (n ns : Nat) (w : World) (e : Ending) (w' : World) : Prop := (∃ f : Bool, e = .returned (.bool f) ∧ (f = false → n ≤ 40 ∧ ns ≤ 40)) ∧ Below w.heap.size w w'
set_option maxRecDepth 100000 in
set_option maxHeartbeats 1600000 in
theorem Far2_c (A As : Option Addr) (n c ns cs : Nat) (wrg : Int) (ds ss : List Dd) (w : World) (HD : DdsAt w A n ds) (HS : DdsAt w As ns ss) :
    Calls Try.prog 11 #[.agg #[.slice A n c, .slice As ns cs, .int .i64 wrg]] w (FarRet2 n ns w) := by
  by_cases h1 : (40 : Int) < n
  · have hB : decide ((40 : Int) < n) = true := by simpa using h1
    clear HD HS
    go_enter Try.func11, Try.ntmps11
    go_wp2_with fail
    go_ret
    exact ⟨⟨true, rfl, fun h => by cases h⟩, by (repeat first | with_reducible assumption | with_reducible exact Below.refl _ _ | (with_reducible refine Below.alloc ?_ ?side _; case side => (first | omega | (with_reducible exact Below.size (by assumption)) | (simp; done) | (simp; omega))) | (with_reducible refine Below.setCell ?_ ?side _; case side => (first | omega | (with_reducible exact Below.size (by assumption)) | (simp; done) | (simp; omega))) | with_reducible refine Below.drew ?_ | with_reducible refine below_drewN ?_ _ | (with_reducible refine below_step (by assumption) ?side ?_; case side => (first | omega | (with_reducible exact Below.size (by assumption)) | (simp; done) | (simp; omega))))⟩
  have hB : decide ((40 : Int) < n) = false := by simpa using h1
  by_cases h2 : (40 : Int) < ns
  · have hB2 : decide ((40 : Int) < ns) = true := by simpa using h2
    clear HD HS
    go_enter Try.func11, Try.ntmps11
    go_wp2_with fail
    go_ret
    exact ⟨⟨true, rfl, fun h => by cases h⟩, by (repeat first | with_reducible assumption | with_reducible exact Below.refl _ _ | (with_reducible refine Below.alloc ?_ ?side _; case side => (first | omega | (with_reducible exact Below.size (by assumption)) | (simp; done) | (simp; omega))) | (with_reducible refine Below.setCell ?_ ?side _; case side => (first | omega | (with_reducible exact Below.size (by assumption)) | (simp; done) | (simp; omega))) | with_reducible refine Below.drew ?_ | with_reducible refine below_drewN ?_ _ | (with_reducible refine below_step (by assumption) ?side ?_; case side => (first | omega | (with_reducible exact Below.size (by assumption)) | (simp; done) | (simp; omega))))⟩
  have hB2 : decide ((40 : Int) < ns) = false := by simpa using h2
  have hn : n ≤ 40 := by omega
  have hs : ns ≤ 40 := by omega
  have hc := Lib.hid (fun V (hV : Below w.heap.size w V) => refCheck2_c A As n c ns cs wrg ds ss V hn hs (HD.later hV) (HS.later hV))
  have HDI := Lib.hid HD
  obtain ⟨ck, hck⟩ : ∃ b, ck2 ds ss n ns wrg = b := ⟨_, rfl⟩
  rw [hck] at hc
  clear HD HS hck
  go_enter Try.func11, Try.ntmps11
  go_upto_region 3 with (fail)
  go_name_world X hX
  have BX : Below w.heap.size w X := (al1 hX).1
  have q0 := (al1_0 hX).2.1
  have l0 := (al1_0 hX).1
  clear hX
  cases ck
  · rw [show er2 false = 20 from rfl] at hc
    go_wp2_with fail
    refine (hc.out _ BX).mono ?_
    rintro e w1 ⟨rfl, hb1⟩
    go_wp2_with fail
    go_ret
    exact ⟨⟨false, rfl, fun _ => ⟨hn, hs⟩⟩, BX.trans (hb1.mono BX.size)⟩
  · rw [show er2 true = 0 from rfl] at hc
    go_wp2_with fail
    refine (hc.out _ BX).mono ?_
    rintro e w1 ⟨rfl, hb1⟩
    have B1 : Below w.heap.size w w1 := BX.trans (hb1.mono BX.size)
    have Q1 := Lib.hid (fun j => (hb1.cell (p := ⟨w.heap.size, j, none⟩) l0).trans (q0 j))
    clear q0 hb1
    have q1 := Q1.out
    go_wp2_with fail
    clear q1
    go_loopw [3, 4] (fun v i (wr : World) => ∃ (k : Nat) (z : Int), k ≤ n ∧ v = .int .i64 z ∧ i = .int .i64 k ∧ (0 ≤ z ∧ z ≤ k) ∧ wr = w1) (fun _ i _ => n - (intOf i).toNat)
    case atStart => exact ⟨0, 0, by omega, rfl, rfl, by omega, rfl⟩
    case round =>
      obtain ⟨k, z, hk, rfl, rfl, hz, hws⟩ := hrel
      subst wr
      have q1 := Q1.out
      by_cases hlt : k < n
      · have hqB : decide ((k : Int) < n) = true := by simp; omega
        obtain ⟨b0, o0, rfl, hb0, y0, y1, y2, y3, y4⟩ := (HDI.out.later B1).get hlt
        obtain ⟨f, hf⟩ : ∃ f, (ddAt ds k).fr = f := ⟨_, rfl⟩
        rw [hf] at y2
        have hw : IntKind.i64.wrap (z + 1) = z + 1 := IntWalk.i64_in _ (by omega)
        clear y0 y1 y3 y4 hf
        cases ef : (f == 2)
        · go_wp2_with fail
          go_roundw
          case rel => exact ⟨k + 1, z, by omega, rfl, by go_num, by omega, trivial⟩
          case measure => simp [intOf]; omega
        · go_wp2_with fail
          go_roundw
          case rel => exact ⟨k + 1, z + 1, by omega, rfl, by go_num, by omega, trivial⟩
          case measure => simp [intOf]; omega
      · obtain rfl : k = n := by omega
        have hqB : decide (((k : Nat) : Int) < k) = false := by simp
        cases hd : decide ((5 : Int) < z)
        all_goals
          go_wp2_with fail
          go_ret
          exact ⟨⟨_, rfl, fun _ => ⟨hn, hs⟩⟩, B1⟩

end Go.Proofs.Ytdhlnlmhdacblaa
