/- StretchTurned of the statements (layer 4): the copies made, in any order; the readings exchanged. -/
import Derived.Test.YtjlibgledkdfiaaTn4
import Derived.Test.YtjlibgledkdfiaaHl
import Derived.Shelf.Abstract
import Derived.Laws.EntriesVeiled
import Derived.Handy
import Derived.Deep.DrawnRows
import Derived.Deep.DeepCutAuto
namespace Go.Proofs.Ytjlibgledkdfiaa
open Go.RowKit
open Go.Sort (grow)
set_option linter.unusedVariables false

section
variable {P : Program} {ops : Array Oper} {Q : Exit → Act → World → Prop} {S : World → Prop} {m : Nat}
theorem wpAnyL_three4 {i j l : Nat} {o1 o2 o3 : Oper} {fuel : Nat} {listed : Array Bool} {a : Act} {w : World} (hr : Region.ready .any ops listed = [i, j, l]) (ho1 : ops[i]? = some o1) (ho2 : ops[j]? = some o2) (ho3 : ops[l]? = some o3)
    (h1 : ∀ K : Act → World → Prop, Shut (∀ a' w', (i ≠ m → S w') → ((i ≠ m → S w') → wpAnyL P ops Q S m fuel (listed.setIfInBounds i true) a' w') → K a' w') → if Region.wanted o1 (yielded ops a.tmps) = true then Oper.wp P o1 a w K Q else K (a.put o1.dst undef) w)
    (h2 : ∀ K : Act → World → Prop, Shut (∀ a' w', (j ≠ m → S w') → ((j ≠ m → S w') → wpAnyL P ops Q S m fuel (listed.setIfInBounds j true) a' w') → K a' w') → if Region.wanted o2 (yielded ops a.tmps) = true then Oper.wp P o2 a w K Q else K (a.put o2.dst undef) w)
    (h3 : ∀ K : Act → World → Prop, Shut (∀ a' w', (l ≠ m → S w') → ((l ≠ m → S w') → wpAnyL P ops Q S m fuel (listed.setIfInBounds l true) a' w') → K a' w') → if Region.wanted o3 (yielded ops a.tmps) = true then Oper.wp P o3 a w K Q else K (a.put o3.dst undef) w) :
    wpAnyL P ops Q S m (fuel + 1) listed a w := by
  refine ⟨fun h0 => (by rw [h0] at hr; cases hr), fun k hk => ?_⟩
  rw [hr] at hk
  rcases List.mem_cons.1 hk with rfl | hk
  · exact wpOp_step ho1 fun K' hK => h1 K' fun a' w' h1 h2 => hK a' w' ⟨h1, h2 h1⟩
  · rcases List.mem_cons.1 hk with rfl | hk
    · exact wpOp_step ho2 fun K' hK => h2 K' fun a' w' h1 h2 => hK a' w' ⟨h1, h2 h1⟩
    · obtain rfl : k = l := by simpa using hk
      exact wpOp_step ho3 fun K' hK => h3 K' fun a' w' h1 h2 => hK a' w' ⟨h1, h2 h1⟩
end
section
variable {w W : World} {B g : Nat} {u0 u1 u2 u3 u4 u5 : Value}
theorem belSet6 (h : Below B w W) (hg : B ≤ g) : Below B w ((((((W.setCell ⟨g, 0, none⟩ u0).setCell ⟨g, 1, none⟩ u1).setCell ⟨g, 2, none⟩ u2).setCell ⟨g, 3, none⟩ u3).setCell ⟨g, 4, none⟩ u4).setCell ⟨g, 5, none⟩ u5) :=
  (((((h.setCell hg _).setCell hg _).setCell hg _).setCell hg _).setCell hg _).setCell hg _
theorem blkFar6 {b : Nat} {t : TypeId} {cs : Array Value} (h : Blk W b t cs) (hg : b ≠ g) : Blk ((((((W.setCell ⟨g, 0, none⟩ u0).setCell ⟨g, 1, none⟩ u1).setCell ⟨g, 2, none⟩ u2).setCell ⟨g, 3, none⟩ u3).setCell ⟨g, 4, none⟩ u4).setCell ⟨g, 5, none⟩ u5) b t cs :=
  (((((h.far (p := ⟨g, 0, none⟩) hg _).far (p := ⟨g, 1, none⟩) hg _).far (p := ⟨g, 2, none⟩) hg _).far (p := ⟨g, 3, none⟩) hg _).far (p := ⟨g, 4, none⟩) hg _).far (p := ⟨g, 5, none⟩) hg _
theorem puFar6 {base : Nat} {A1 : Option Addr} {np c1 : Nat} {A2 : Option Addr} {nl c2 : Nat} {rs : List Ro4} {ds : List Re4} (h : PuOwn base A1 np c1 A2 nl c2 rs ds W) (hg : ∀ k, ((Value.slice A1 np c1).ownBlock = some k ∨ (Value.slice A2 nl c2).ownBlock = some k) → k ≠ g) :
    PuOwn base A1 np c1 A2 nl c2 rs ds ((((((W.setCell ⟨g, 0, none⟩ u0).setCell ⟨g, 1, none⟩ u1).setCell ⟨g, 2, none⟩ u2).setCell ⟨g, 3, none⟩ u3).setCell ⟨g, 4, none⟩ u4).setCell ⟨g, 5, none⟩ u5) :=
  (((((h.far (p := ⟨g, 0, none⟩) _ hg).far (p := ⟨g, 1, none⟩) _ hg).far (p := ⟨g, 2, none⟩) _ hg).far (p := ⟨g, 3, none⟩) _ hg).far (p := ⟨g, 4, none⟩) _ hg).far (p := ⟨g, 5, none⟩) _ hg
/-- a whole reading stored -/
theorem PuOwn.setRe7 {base : Nat} {A1 : Option Addr} {np c1 nl c2 : Nat} {rs : List Ro4} {ds : List Re4} (h : PuOwn base A1 np c1 (some ⟨g, 0, none⟩) nl c2 rs ds W) (hl : ds.length = nl) {k : Nat} (hk : k < nl) (y : Re4) :
    PuOwn base A1 np c1 (some ⟨g, 0, none⟩) nl c2 rs (ds.set k y) (((((((W.setCell ⟨g, k * 7, none⟩ (.int .i64 y.wh)).setCell ⟨g, k * 7 + 1, none⟩ (.int .i64 y.rd)).setCell ⟨g, k * 7 + 2, none⟩ (.int .i64 y.ct)).setCell ⟨g, k * 7 + 3, none⟩ (.int .i64 y.rs)).setCell ⟨g, k * 7 + 4, none⟩ (.int .i64 y.of)).setCell ⟨g, k * 7 + 5, none⟩ (.int .i64 y.lo)).setCell ⟨g, k * 7 + 6, none⟩ (.int .i64 y.hi)) := by
  obtain ⟨x0, x1, x2, x3, x4, x5, x6⟩ := y
  obtain ⟨⟨y0, y1, y2, y3, y4, y5, y6⟩, hy⟩ : ∃ y, reAt ds k = y := ⟨_, rfl⟩
  have st : ∀ {ds' : List Re4} {W' : World} (z z' : Re4) (j : Nat) (u : Value), PuOwn base A1 np c1 (some ⟨g, 0, none⟩) nl c2 rs (ds.set k z) W' → j < 7 → encE4 z' = (encE4 z).set j u → PuOwn base A1 np c1 (some ⟨g, 0, none⟩) nl c2 rs (ds.set k z') (W'.setCell ⟨g, k * 7 + j, none⟩ u) := fun {ds' W'} z z' j u hp hj hz => by
    have := hp.setRe (by rw [List.length_set]; exact hl) hk hj z' u (by rw [reAt_set (by rw [hl]; exact hk), if_pos rfl]; exact hz)
    rwa [List.set_set] at this
  have h0 := h.setRe hl hk (j := 0) (by omega) ⟨x0, y1, y2, y3, y4, y5, y6⟩ (.int .i64 x0) (by rw [hy]; rfl)
  have h1 := st (ds' := []) _ ⟨x0, x1, y2, y3, y4, y5, y6⟩ 1 (.int .i64 x1) h0 (by omega) rfl
  have h2 := st (ds' := []) _ ⟨x0, x1, x2, y3, y4, y5, y6⟩ 2 (.int .i64 x2) h1 (by omega) rfl
  have h3 := st (ds' := []) _ ⟨x0, x1, x2, x3, y4, y5, y6⟩ 3 (.int .i64 x3) h2 (by omega) rfl
  have h4 := st (ds' := []) _ ⟨x0, x1, x2, x3, x4, y5, y6⟩ 4 (.int .i64 x4) h3 (by omega) rfl
  have h5 := st (ds' := []) _ ⟨x0, x1, x2, x3, x4, x5, y6⟩ 5 (.int .i64 x5) h4 (by omega) rfl
  exact st (ds' := []) _ ⟨x0, x1, x2, x3, x4, x5, x6⟩ 6 (.int .i64 x6) h5 (by omega) rfl
end
/-- two copies of a pull, each in a box, none in the other's way -/
structure Two4 (B nr nd : Nat) (ir glo ghi wrg : Int) (rods : List Ro4) (rs1 rs2 : List Re4) (g4 g5 : Nat) (A1 : Option Addr) (k1 : Nat) (A2 : Option Addr) (k2 : Nat) (A3 : Option Addr) (k3 : Nat) (A4 : Option Addr) (k4 : Nat) (wx : World) : Prop where
  p1 : PuOwn B A1 nr k1 A2 nd k2 rods rs1 wx
  p2 : PuOwn B A3 nr k3 A4 nd k4 rods rs2 wx
  b4 : Blk wx g4 27 #[.int .i64 ir, .int .i64 glo, .int .i64 ghi, .slice A1 nr k1, .slice A2 nd k2, .int .i64 wrg]
  b5 : Blk wx g5 27 #[.int .i64 ir, .int .i64 glo, .int .i64 ghi, .slice A3 nr k3, .slice A4 nd k4, .int .i64 wrg]
  ne : g4 ≠ g5
  l4 : B ≤ g4
  l5 : B ≤ g5
  o1 : ∀ k, ((Value.slice A1 nr k1).ownBlock = some k ∨ (Value.slice A2 nd k2).ownBlock = some k) → k ≠ g4 ∧ k ≠ g5
  o2 : ∀ k, ((Value.slice A3 nr k3).ownBlock = some k ∨ (Value.slice A4 nd k4).ownBlock = some k) → k ≠ g4 ∧ k ≠ g5
  o12 : ∀ k j, ((Value.slice A1 nr k1).ownBlock = some k ∨ (Value.slice A2 nd k2).ownBlock = some k) → ((Value.slice A3 nr k3).ownBlock = some j ∨ (Value.slice A4 nd k4).ownBlock = some j) → k ≠ j
structure Pre4 (w1 : World) (nr nd : Nat) (rods : List Ro4) (res : List Re4) (g4 g5 : Nat) (A1 : Option Addr) (k1 : Nat) (A2 : Option Addr) (k2 : Nat) (A3 : Option Addr) (k3 : Nat) (A4 : Option Addr) (k4 : Nat) (V : World) : Prop where
  t : Below w1.heap.size w1 V
  p1 : PuOwn w1.heap.size A1 nr k1 A2 nd k2 rods res V
  p2 : PuOwn w1.heap.size A3 nr k3 A4 nd k4 rods res V
  b4 : Blk V g4 27 #[.int .i64 0, .int .i64 0, .int .i64 0, .slice none 0 0, .slice none 0 0, .int .i64 0]
  b5 : Blk V g5 27 #[.int .i64 0, .int .i64 0, .int .i64 0, .slice none 0 0, .slice none 0 0, .int .i64 0]
  ne : g4 ≠ g5
  l4 : w1.heap.size ≤ g4
  l5 : w1.heap.size ≤ g5
  o1 : ∀ k, ((Value.slice A1 nr k1).ownBlock = some k ∨ (Value.slice A2 nd k2).ownBlock = some k) → k ≠ g4 ∧ k ≠ g5
  o2 : ∀ k, ((Value.slice A3 nr k3).ownBlock = some k ∨ (Value.slice A4 nd k4).ownBlock = some k) → k ≠ g4 ∧ k ≠ g5
  o12 : ∀ k j, ((Value.slice A1 nr k1).ownBlock = some k ∨ (Value.slice A2 nd k2).ownBlock = some k) → ((Value.slice A3 nr k3).ownBlock = some j ∨ (Value.slice A4 nd k4).ownBlock = some j) → k ≠ j
theorem leafcut4 {w1 : World} {nr nd : Nat} {rods : List Ro4} {res : List Re4} {goal : Prop} {G : World → Nat → Nat → Option Addr → Nat → Option Addr → Nat → Option Addr → Nat → Option Addr → Nat → Prop}
    (main : (∀ V g4 g5 A1 k1 A2 k2 A3 k3 A4 k4, Pre4 w1 nr nd rods res g4 g5 A1 k1 A2 k2 A3 k3 A4 k4 V → G V g4 g5 A1 k1 A2 k2 A3 k3 A4 k4) → goal)
    (leaf : ∀ V g4 g5 A1 k1 A2 k2 A3 k3 A4 k4, Pre4 w1 nr nd rods res g4 g5 A1 k1 A2 k2 A3 k3 A4 k4 V → G V g4 g5 A1 k1 A2 k2 A3 k3 A4 k4) : goal := main leaf
def CutT4 (w1 : World) (nr nd : Nat) (ir glo ghi wrg : Int) (rods : List Ro4) (res : List Re4) (a b : Value) (wx : World) : Prop :=
  ∃ g4 g5 A1 k1 A2 k2 A3 k3 A4 k4, a = .pointer (some ⟨g4, 0, none⟩) ∧ b = .pointer (some ⟨g5, 0, none⟩) ∧ Two4 w1.heap.size nr nd ir glo ghi wrg rods res res g4 g5 A1 k1 A2 k2 A3 k3 A4 k4 wx ∧ Below w1.heap.size w1 wx
set_option maxRecDepth 100000 in
set_option maxHeartbeats 12800000 in
theorem strturn4_c (Ar : Option Addr) (nr cr : Nat) (Ad : Option Addr) (nd cd : Nat) (p : P4) (rod bz : Int) (w : World) (HM : MemP Ar nr Ad nd p w) :
    Calls Try.prog 7 #[.agg #[.int .i64 p.ir, .int .i64 p.glo, .int .i64 p.ghi, .slice Ar nr cr, .slice Ad nd cd, .int .i64 p.wr], .int .i64 rod, .int .i64 bz] w fun e w' => e = .returned (.bool true) ∧ Below w.heap.size w w' := by
  have HRD := Lib.hid (fun V (hV : Below w.heap.size w V) => ready4_c Ar nr cr Ad nd cd p V (HM.later hV))
  cases hrd : ready4 p
  · rw [hrd] at HRD
    clear hrd HM
    obtain ⟨ir, glo, ghi, wrg, rods, res⟩ := p
    simp only at HRD ⊢
    go_enter Try.func7, Try.ntmps7
    go_upto_region 1 with (fail)
    go_name_world X hX
    have BX : Below w.heap.size w X := (al1 hX).1
    have HPX : Hid (Blk X w.heap.size 27 #[.int .i64 ir, .int .i64 glo, .int .i64 ghi, .slice Ar nr cr, .slice Ad nd cd, .int .i64 wrg]) := by rw [← hX]; exact Lib.hid (Blk.new w _ _)
    have qX := HPX.out.cell
    have lX := HPX.out.lt
    clear hX
    go_wp2_with (first | (go_at_call 12; refine (HRD.out X BX).mono ?_; (rintro e w1 ⟨rfl, hb1⟩); (have B1 := BX.trans (hb1.mono BX.size)); clear hb1 qX lX) | (go_at_call 13; refine (works4_c w1).mono ?_; (rintro e w9 ⟨rfl, hb9⟩); (have B9 := B1.trans (hb9.mono B1.size)); clear hb9))
    go_ret
    exact ⟨rfl, B9⟩
  rw [hrd] at HRD
  by_cases hb0 : 0 ≤ bz
  case neg =>
    have hbB : decide (bz < 0) = true := decide_eq_true (by omega)
    clear hrd HM
    obtain ⟨ir, glo, ghi, wrg, rods, res⟩ := p
    simp only at HRD ⊢
    go_enter Try.func7, Try.ntmps7
    go_upto_region 1 with (fail)
    go_name_world X hX
    have BX : Below w.heap.size w X := (al1 hX).1
    have HPX : Hid (Blk X w.heap.size 27 #[.int .i64 ir, .int .i64 glo, .int .i64 ghi, .slice Ar nr cr, .slice Ad nd cd, .int .i64 wrg]) := by rw [← hX]; exact Lib.hid (Blk.new w _ _)
    have qX := HPX.out.cell
    have lX := HPX.out.lt
    clear hX
    go_wp2_with (first | (go_at_call 12; refine (HRD.out X BX).mono ?_; (rintro e w1 ⟨rfl, hb1⟩); (have B1 := BX.trans (hb1.mono BX.size)); clear hb1 qX lX) | (go_at_call 13; refine (works4_c w1).mono ?_; (rintro e w9 ⟨rfl, hb9⟩); (have B9 := B1.trans (hb9.mono B1.size)); clear hb9))
    go_ret
    exact ⟨rfl, B9⟩
  have hbB : decide (bz < 0) = false := decide_eq_false (by omega)
  by_cases hb1 : bz ≤ 100
  case neg =>
    have hcB : decide ((100 : Int) < bz) = true := decide_eq_true (by omega)
    clear hrd HM
    obtain ⟨ir, glo, ghi, wrg, rods, res⟩ := p
    simp only at HRD ⊢
    go_enter Try.func7, Try.ntmps7
    go_upto_region 1 with (fail)
    go_name_world X hX
    have BX : Below w.heap.size w X := (al1 hX).1
    have HPX : Hid (Blk X w.heap.size 27 #[.int .i64 ir, .int .i64 glo, .int .i64 ghi, .slice Ar nr cr, .slice Ad nd cd, .int .i64 wrg]) := by rw [← hX]; exact Lib.hid (Blk.new w _ _)
    have qX := HPX.out.cell
    have lX := HPX.out.lt
    clear hX
    go_wp2_with (first | (go_at_call 12; refine (HRD.out X BX).mono ?_; (rintro e w1 ⟨rfl, hb1⟩); (have B1 := BX.trans (hb1.mono BX.size)); clear hb1 qX lX) | (go_at_call 13; refine (works4_c w1).mono ?_; (rintro e w9 ⟨rfl, hb9⟩); (have B9 := B1.trans (hb9.mono B1.size)); clear hb9))
    go_ret
    exact ⟨rfl, B9⟩
  have hcB : decide ((100 : Int) < bz) = false := decide_eq_false (by omega)
  obtain ⟨bn, rfl⟩ : ∃ n : Nat, bz = n := ⟨bz.toNat, by omega⟩
  have hbn : bn ≤ 100 := by omega
  have rdy := ready4_iff hrd
  have hr := HM.hr.1
  have hd := HM.hd.1
  have ok : Ok4 nr nd p := ok4_of rdy.ck hr hd
  have hnr4 := ok.nr4
  have hnd8 := ok.nd8
  have rdo := ready4_iff (ready_tu hrd)
  have hro' : (tuP p).rods.length = nr := hr
  have hdo : (tuP p).res.length = nd := by simp [tuP]; exact hd
  have oko : Ok4 nr nd (tuP p) := ok4_of rdo.ck hro' hdo
  have hnr : nr ≤ 40 := by omega
  have hnd : nd ≤ 40 := by omega
  have HCP0 := Lib.hid (fun V (hV : Below w.heap.size w V) => Copy4_c Ar nr cr Ad nd cd p V (by omega) (by omega) (HM.later hV))
  have HNP := fun V (hV : Below w.heap.size w V) => many4_c Ar nr cr Ad nd cd p V hnr hnd (HM.later hV) rdy.len
  have HNO := fun A1 k1 A2 k2 V (H : MemP A1 nr A2 nd (tuP p) V) => many4_c A1 nr k1 A2 nd k2 (tuP p) V hnr hnd H rdo.len
  have HFP := fun V (hV : Below w.heap.size w V) => fewest4_c Ar nr cr Ad nd cd p V hnr hnd (HM.later hV)
  have HFO := fun A1 k1 A2 k2 V (H : MemP A1 nr A2 nd (tuP p) V) => fewest4_c A1 nr k1 A2 nd k2 (tuP p) V hnr hnd H
  have HLP := fun V (hV : Below w.heap.size w V) => lengths4_c Ar nr cr Ad nd cd p 1 V hnr hnd (HM.later hV) rdy.len
  have HLO := fun A1 k1 A2 k2 V (H : MemP A1 nr A2 nd (tuP p) V) => lengths4_c A1 nr k1 A2 nd k2 (tuP p) 2 V hnr hnd H rdo.len
  have HOP := fun V (hV : Below w.heap.size w V) => rods4_c Ar nr cr Ad nd cd p rod V hnr hnd (HM.later hV) rdy.len
  have HOO := fun A1 k1 A2 k2 V (H : MemP A1 nr A2 nd (tuP p) V) => rods4_c A1 nr k1 A2 nd k2 (tuP p) rod V hnr hnd H rdo.len
  have HTP := fun V (hV : Below w.heap.size w V) => stretch4_c Ar nr cr Ad nd cd p V hnr hnd (HM.later hV) rdy.len
  have HTO := fun A1 k1 A2 k2 V (H : MemP A1 nr A2 nd (tuP p) V) => stretch4_c A1 nr k1 A2 nd k2 (tuP p) V hnr hnd H rdo.len
  have HAL := Lib.hid (fun A1 k1 A2 k2 V (hV : Below w.heap.size w V) (H : MemP A1 nr A2 nd (rtP p bn) V) => alike4_c Ar nr cr Ad nd cd p A1 nr k1 A2 nd k2 (rtP p bn) V (HM.later hV) H hrd (ready_rt hrd bn) (rt_same p bn))
  have HMO := Lib.hid (fun base A1 c1 A2 c2 V (h : PuOwn base A1 nr c1 A2 nd c2 p.rods (p.res.map tuE) V) => (PuOwn.mem (p := tuP p) h hro' hdo))
  have HMQ := Lib.hid (fun base A1 c1 A2 c2 V (h : PuOwn base A1 nr c1 A2 nd c2 p.rods (rtK p.res bn nd) V) => (PuOwn.mem (p := rtP p bn) (by rw [show (rtP p bn).res = rtK p.res bn p.res.length from rfl, hd]; exact h) hr ((rtK_len _ _ _).trans hd)))
  have hzz := tu_op rdy.ck rdo.ck
  have hL : lgs4 (tuP p) 2 = lgs4 p 1 := by
    unfold lgs4
    rw [show when4 2 = true from rfl, show when4 1 = true from rfl, hzz, tu_lg]
  have hlen : (lgs4 p 1).length ≤ 9 := lgs4_le rdy.g8
  have hR := tu_rds rdy.ck rdo.ck rod
  have hRl : (rds4 p rod).length ≤ 10000 := by
    unfold rds4
    cases op4 p (wn rod 0 ((p.rods.length : Int) - 1)) == 0
    · exact Nat.zero_le _
    · simp only [cond_true]
      unfold rl4
      refine Nat.le_trans (List.length_filter_le _ _) ?_
      rw [ups_len]
      omega
  have hst : (st4 (tuP p)).lo = -(st4 p).hi ∧ (st4 (tuP p)).hi = -(st4 p).lo ∧ sane4 (st4 p) = true := by
    unfold st4
    rw [ol4_ck rdy.ck, ol4_ck rdo.ck]
    rcases op4_or rdy.ck with h0 | ⟨-, hte⟩
    · obtain ⟨u, x, y, ht⟩ := (op4_truth rdy.ck).1 h0
      have h1 := tu_en (tr4_ne ht) (tr4_ne (tu_tr.2 ht))
      exact ⟨h1.1, h1.2, en4_sane (fun x hx => tr4_ok ok hx) (tr4_ne ht)⟩
    · have hto : tr4 (tuP p) = [] := by
        rcases op4_or rdo.ck with h0 | ⟨-, h⟩
        · obtain ⟨u, x, y, ht⟩ := (op4_truth rdo.ck).1 h0
          exact absurd hte (tr4_ne (tu_tr.1 ht))
        · exact h
      rw [hte, hto]
      exact ⟨rfl, rfl, rfl⟩
  rw [ol4_ck rdy.ck] at HNP
  rw [ol4_ck rdo.ck, tu_mn (by omega), hzz] at HNO
  rw [rdy.ck, show er4 true = 0 from rfl] at HFP
  rw [rdo.ck, show er4 true = 0 from rfl, tu_few rdy.ck rdo.ck] at HFO
  rw [show when4 1 = true from rfl] at HLP
  rw [hL, show when4 2 = true from rfl, hzz] at HLO
  rw [hR.1, hR.2] at HOO
  rw [hst.1, hst.2.1, hzz] at HTO
  have hsn := hst.2.2
  obtain ⟨m, hm⟩ : ∃ x, mn4 (tr4 p) (tr4 p).length = x := ⟨_, rfl⟩
  obtain ⟨z, hz⟩ : ∃ x, op4 p true = x := ⟨_, rfl⟩
  obtain ⟨f, hf⟩ : ∃ x, few4 p = x := ⟨_, rfl⟩
  obtain ⟨L1, hL1⟩ : ∃ x, lgs4 p 1 = x := ⟨_, rfl⟩
  obtain ⟨R1, hR1⟩ : ∃ x, rds4 p rod = x := ⟨_, rfl⟩
  obtain ⟨zr, hzr⟩ : ∃ x, op4 p (wn rod 0 ((p.rods.length : Int) - 1)) = x := ⟨_, rfl⟩
  have HSN := fun V => sane4_c (st4 p) V
  rw [hsn] at HSN
  have hsb := hsn
  unfold sane4 at hsb
  simp only [Bool.and_eq_true, decide_eq_true_eq] at hsb
  obtain ⟨lo, hlo⟩ : ∃ x, (st4 p).lo = x := ⟨_, rfl⟩
  obtain ⟨hi, hhi⟩ : ∃ x, (st4 p).hi = x := ⟨_, rfl⟩
  rw [hm, hz] at HNP HNO
  rw [hf] at HFP HFO
  rw [hL1, hz] at HLP HLO
  rw [hL1] at hlen
  rw [hR1, hzr] at HOP HOO
  rw [hR1] at hRl
  rw [hlo, hhi, hz] at HTP HTO
  rw [hlo, hhi] at HSN hsb
  have HSU := fun A c B d V (H1 : IntsAt V A L1.length L1) (H2 : IntsAt V B L1.length L1) => same4_c A B L1.length L1.length c d L1 L1 V (by omega) (by omega) H1 H2
  have HSR := fun A c B d V (H1 : IntsAt V A R1.length R1) (H2 : IntsAt V B R1.length R1) => same4_c A B R1.length R1.length c d R1 R1 V (by omega) (by omega) H1 H2
  rw [same_self] at HSU HSR
  obtain ⟨n1, hn1⟩ : ∃ x, L1.length = x := ⟨_, rfl⟩
  obtain ⟨n2, hn2⟩ : ∃ x, R1.length = x := ⟨_, rfl⟩
  rw [hn1] at HLP HLO HSU
  rw [hn2] at HOP HOO HSR
  have N1 : Hid (IntKind.i64.wrap (-hi) = -hi) := Lib.hid (IntWalk.i64_in _ (by omega))
  have N2 : Hid (IntKind.i64.wrap (-lo) = -lo) := Lib.hid (IntWalk.i64_in _ (by omega))
  have HRE := Lib.hid ok.re
  have HDL := Lib.hid hd
  have HRL := Lib.hid hr
  have HMI := Lib.hid HM
  replace HNP := Lib.hid HNP
  replace HNO := Lib.hid HNO
  replace HFP := Lib.hid HFP
  replace HFO := Lib.hid HFO
  replace HLP := Lib.hid HLP
  replace HLO := Lib.hid HLO
  replace HOP := Lib.hid HOP
  replace HOO := Lib.hid HOO
  replace HTP := Lib.hid HTP
  replace HTO := Lib.hid HTO
  replace HSN := Lib.hid HSN
  replace HSU := Lib.hid HSU
  replace HSR := Lib.hid HSR
  clear HM hrd rdy hr hd ok rdo hro' hdo oko hzz hL hlen hR hRl hst hsn hm hz hf hL1 hR1 hzr hlo hhi hsb hn1 hn2
  obtain ⟨ir, glo, ghi, wrg, rods, res⟩ := p
  simp only [tuP, rtP] at HRD HCP0 HNP HNO HFP HFO HLP HLO HOP HOO HTP HTO HAL HMO HMQ HRE HDL HRL HMI ⊢
  go_enter Try.func7, Try.ntmps7
  go_upto_region 1 with (fail)
  go_name_world X hX
  have BX : Below w.heap.size w X := (al1 hX).1
  have HPX : Hid (Blk X w.heap.size 27 #[.int .i64 ir, .int .i64 glo, .int .i64 ghi, .slice Ar nr cr, .slice Ad nd cd, .int .i64 wrg]) := by rw [← hX]; exact Lib.hid (Blk.new w _ _)
  have qX := HPX.out.cell
  have lX := HPX.out.lt
  clear hX
  go_upto_region 3 with (go_at_call 12; refine (HRD.out X BX).mono ?_; (rintro e w1 ⟨rfl, hb1⟩); (have Bw1 := BX.trans (hb1.mono BX.size)); (have HPw1 := Lib.hid (HPX.out.below hb1 HPX.out.lt)); clear hb1 qX lX)
  have lw1 := HPw1.out.lt
  have z01 : w.heap.size ≤ w1.heap.size := Bw1.size
  go_cut [7, 8] (fun a b wx => CutT4 w1 nr nd ir glo ghi wrg rods res a b wx)
  case first =>
    as_aux_lemma =>
      have HCP := Lib.hid (fun V (hV : Below w1.heap.size w1 V) => HCP0.out V (Bw1.trans (hV.mono z01)))
      have HSS : Hid (∀ W', Below w1.heap.size w1 W' → ∀ j, W'.cell? ⟨w.heap.size, j, none⟩ = #[Value.int .i64 ir, .int .i64 glo, .int .i64 ghi, .slice Ar nr cr, .slice Ad nd cd, .int .i64 wrg][j]?) := Lib.hid fun W' h j => (h.cell (p := ⟨w.heap.size, j, none⟩) lw1).trans (HPw1.out.cell j)
      have T0' : Below w1.heap.size w1 w1.drew := Below.drew (Below.refl _ _)
      have hS := HSS.out _ T0'
      refine wp_region_L (by kernel_rfl) (fun W' => ∀ j, W'.cell? ⟨w.heap.size, j, none⟩ = #[Value.int .i64 ir, .int .i64 glo, .int .i64 ghi, .slice Ar nr cr, .slice Ad nd cd, .int .i64 wrg][j]?) 7 ?_
      refine wpAnyL_take (i := 0) (v := ?_) rfl (by kernel_rfl) (by kernel_rfl) (by kernel_rfl) (by kernel_rfl) (fun _ _ _ h => h) hS (Or.inl ⟨by rfl, ?_⟩) ?_
      rotate_left 1
      · intro w9 k0
        go_simp
        try with_reducible rfl
      try simp only [List.getElem_toArray, List.getElem_cons_zero, Act.put, List.setIfInBounds_toArray, List.set_cons_zero, List.set_cons_succ]
      refine wpAnyL_take (i := 2) (v := ?_) rfl (by kernel_rfl) (by kernel_rfl) (by kernel_rfl) (by kernel_rfl) (fun _ _ _ h => h) hS (Or.inl ⟨by rfl, ?_⟩) ?_
      rotate_left 1
      · intro w9 k0
        go_simp
        try with_reducible rfl
      try simp only [List.getElem_toArray, List.getElem_cons_zero, List.getElem_cons_succ, Act.put, List.setIfInBounds_toArray, List.set_cons_zero, List.set_cons_succ]
      obtain ⟨V0, hV0⟩ : ∃ Z, w1.drew = Z := ⟨_, rfl⟩
      have S0 : Hid (V0.heap.size = w1.heap.size) := Lib.hid (by rw [← hV0]; rfl)
      rw [hV0] at T0' ⊢
      have T0 := T0'
      clear hV0 hS T0'
      apply leafcut4 (w1 := w1) (nr := nr) (nd := nd) (rods := rods) (res := res)
      case main =>
        intro leaf
        refine wpAnyL_three4 (i := 1) (j := 4) (l := 5) (by kernel_rfl) rfl rfl rfl (fun K hK => ?_) (fun K hK => ?_) (fun K hK => ?_)
        · skip
          go_simp
          go_at_call 11
          refine (HCP.out V0 T0).mono ?_
          rintro e V1 ⟨A1, k1, A2, k2, rfl, hO, B1⟩
          have T1 : Below w1.heap.size w1 V1 := T0.trans (B1.mono T0.size)
          have S1 := Lib.hid B1.size
          have BL1 := Lib.hid hO.blocks
          have Q1 := Lib.hid (hO.mono (base' := w1.heap.size) T0.size)
          clear hO
          refine hK.out _ _ (fun _ => HSS.out V1 T1) (fun hS' => ?_)
          clear hK K hS'
          try simp only [List.getElem_toArray, List.getElem_cons_zero, List.getElem_cons_succ, Act.put, List.setIfInBounds_toArray, List.set_cons_zero, List.set_cons_succ]
          refine wpAnyL_three4 (i := 3) (j := 4) (l := 5) (by kernel_rfl) rfl rfl rfl (fun K hK => ?_) (fun K hK => ?_) (fun K hK => ?_)
          · skip
            go_simp
            go_at_call 11
            refine (HCP.out V1 T1).mono ?_
            rintro e V2 ⟨A3, k3, A4, k4, rfl, hO, B2⟩
            have T2 : Below w1.heap.size w1 V2 := T1.trans (B2.mono T1.size)
            have S2 := Lib.hid B2.size
            replace Q1 := Lib.hid (Q1.out.later B2)
            have BL2 := Lib.hid hO.blocks
            have Q2 := Lib.hid (hO.mono (base' := w1.heap.size) T1.size)
            clear hO
            refine hK.out _ _ (fun _ => HSS.out V2 T2) (fun hS' => ?_)
            clear hK K hS'
            try simp only [List.getElem_toArray, List.getElem_cons_zero, List.getElem_cons_succ, Act.put, List.setIfInBounds_toArray, List.set_cons_zero, List.set_cons_succ]
            refine wpAnyL_two (i := 4) (j := 5) (by kernel_rfl) rfl rfl (fun K hK => ?_) (fun K hK => ?_)
            · skip
              go_simp
              obtain ⟨V3, hV3⟩ : ∃ Z, V2.alloc (.cells #[.int .i64 0, .int .i64 0, .int .i64 0, .slice none 0 0, .slice none 0 0, .int .i64 0] 27) = Z := ⟨_, rfl⟩
              rw [hV3]
              have B3 : Below V2.heap.size V2 V3 := (al1 hV3).1
              have S3 := Lib.hid (al1 hV3).2
              have T3 : Below w1.heap.size w1 V3 := T2.trans (B3.mono T2.size)
              replace Q1 := Lib.hid (Q1.out.later B3)
              replace Q2 := Lib.hid (Q2.out.later B3)
              have K4 : Hid (Blk V3 V2.heap.size 27 #[.int .i64 0, .int .i64 0, .int .i64 0, .slice none 0 0, .slice none 0 0, .int .i64 0]) := Lib.hid (by rw [← hV3]; exact Blk.new V2 _ _)
              clear hV3
              obtain ⟨g4, hg4⟩ : ∃ g, V2.heap.size = g := ⟨_, rfl⟩
              rw [hg4] at K4 ⊢
              replace hg4 := Lib.hid hg4
              refine hK.out _ _ (fun _ => HSS.out V3 T3) (fun hS' => ?_)
              clear hK K hS'
              try simp only [List.getElem_toArray, List.getElem_cons_zero, List.getElem_cons_succ, Act.put, List.setIfInBounds_toArray, List.set_cons_zero, List.set_cons_succ]
              refine wpAnyL_one (i := 5) (by kernel_rfl) rfl (fun K hK => ?_)
              go_simp
              obtain ⟨V4, hV4⟩ : ∃ Z, V3.alloc (.cells #[.int .i64 0, .int .i64 0, .int .i64 0, .slice none 0 0, .slice none 0 0, .int .i64 0] 27) = Z := ⟨_, rfl⟩
              rw [hV4]
              have B4 : Below V3.heap.size V3 V4 := (al1 hV4).1
              have S4 := Lib.hid (al1 hV4).2
              have T4 : Below w1.heap.size w1 V4 := T3.trans (B4.mono T3.size)
              replace K4 := Lib.hid (K4.out.below B4 K4.out.lt)
              replace Q1 := Lib.hid (Q1.out.later B4)
              replace Q2 := Lib.hid (Q2.out.later B4)
              have K5 : Hid (Blk V4 V3.heap.size 27 #[.int .i64 0, .int .i64 0, .int .i64 0, .slice none 0 0, .slice none 0 0, .int .i64 0]) := Lib.hid (by rw [← hV4]; exact Blk.new V3 _ _)
              clear hV4
              obtain ⟨g5, hg5⟩ : ∃ g, V3.heap.size = g := ⟨_, rfl⟩
              rw [hg5] at K5 ⊢
              replace hg5 := Lib.hid hg5
              refine hK.out _ _ (fun _ => HSS.out V4 T4) (fun hS' => ?_)
              clear hK K hS'
              try simp only [List.getElem_toArray, List.getElem_cons_zero, List.getElem_cons_succ, Act.put, List.setIfInBounds_toArray, List.set_cons_zero, List.set_cons_succ]
              have s0 := S0.out
              have s1 := S1.out
              have s2 := S2.out
              have s3 := S3.out
              have s4 := S4.out
              have j4 := hg4.out
              have j5 := hg5.out
              have ne45 : g4 ≠ g5 := by omega
              have w4g4 : w1.heap.size ≤ g4 := by omega
              have w4g5 : w1.heap.size ≤ g5 := by omega
              have o14 : ∀ k, ((Value.slice A1 nr k1).ownBlock = some k ∨ (Value.slice A2 nd k2).ownBlock = some k) → k ≠ g4 ∧ k ≠ g5 := fun k hk => by have := BL1.out k hk; omega
              have o24 : ∀ k, ((Value.slice A3 nr k3).ownBlock = some k ∨ (Value.slice A4 nd k4).ownBlock = some k) → k ≠ g4 ∧ k ≠ g5 := fun k hk => by have := BL2.out k hk; omega
              have o12 : ∀ k j, ((Value.slice A1 nr k1).ownBlock = some k ∨ (Value.slice A2 nd k2).ownBlock = some k) → ((Value.slice A3 nr k3).ownBlock = some j ∨ (Value.slice A4 nd k4).ownBlock = some j) → k ≠ j := fun k j hk hj => by have := BL1.out k hk; have := BL2.out j hj; omega
              exact leaf V4 g4 g5 A1 k1 A2 k2 A3 k3 A4 k4 ⟨T4, Q1.out, Q2.out, K4.out, K5.out, ne45, w4g4, w4g5, o14, o24, o12⟩
            · skip
              go_simp
              obtain ⟨V3, hV3⟩ : ∃ Z, V2.alloc (.cells #[.int .i64 0, .int .i64 0, .int .i64 0, .slice none 0 0, .slice none 0 0, .int .i64 0] 27) = Z := ⟨_, rfl⟩
              rw [hV3]
              have B3 : Below V2.heap.size V2 V3 := (al1 hV3).1
              have S3 := Lib.hid (al1 hV3).2
              have T3 : Below w1.heap.size w1 V3 := T2.trans (B3.mono T2.size)
              replace Q1 := Lib.hid (Q1.out.later B3)
              replace Q2 := Lib.hid (Q2.out.later B3)
              have K5 : Hid (Blk V3 V2.heap.size 27 #[.int .i64 0, .int .i64 0, .int .i64 0, .slice none 0 0, .slice none 0 0, .int .i64 0]) := Lib.hid (by rw [← hV3]; exact Blk.new V2 _ _)
              clear hV3
              obtain ⟨g5, hg5⟩ : ∃ g, V2.heap.size = g := ⟨_, rfl⟩
              rw [hg5] at K5 ⊢
              replace hg5 := Lib.hid hg5
              refine hK.out _ _ (fun _ => HSS.out V3 T3) (fun hS' => ?_)
              clear hK K hS'
              try simp only [List.getElem_toArray, List.getElem_cons_zero, List.getElem_cons_succ, Act.put, List.setIfInBounds_toArray, List.set_cons_zero, List.set_cons_succ]
              refine wpAnyL_one (i := 4) (by kernel_rfl) rfl (fun K hK => ?_)
              go_simp
              obtain ⟨V4, hV4⟩ : ∃ Z, V3.alloc (.cells #[.int .i64 0, .int .i64 0, .int .i64 0, .slice none 0 0, .slice none 0 0, .int .i64 0] 27) = Z := ⟨_, rfl⟩
              rw [hV4]
              have B4 : Below V3.heap.size V3 V4 := (al1 hV4).1
              have S4 := Lib.hid (al1 hV4).2
              have T4 : Below w1.heap.size w1 V4 := T3.trans (B4.mono T3.size)
              replace K5 := Lib.hid (K5.out.below B4 K5.out.lt)
              replace Q1 := Lib.hid (Q1.out.later B4)
              replace Q2 := Lib.hid (Q2.out.later B4)
              have K4 : Hid (Blk V4 V3.heap.size 27 #[.int .i64 0, .int .i64 0, .int .i64 0, .slice none 0 0, .slice none 0 0, .int .i64 0]) := Lib.hid (by rw [← hV4]; exact Blk.new V3 _ _)
              clear hV4
              obtain ⟨g4, hg4⟩ : ∃ g, V3.heap.size = g := ⟨_, rfl⟩
              rw [hg4] at K4 ⊢
              replace hg4 := Lib.hid hg4
              refine hK.out _ _ (fun _ => HSS.out V4 T4) (fun hS' => ?_)
              clear hK K hS'
              try simp only [List.getElem_toArray, List.getElem_cons_zero, List.getElem_cons_succ, Act.put, List.setIfInBounds_toArray, List.set_cons_zero, List.set_cons_succ]
              have s0 := S0.out
              have s1 := S1.out
              have s2 := S2.out
              have s3 := S3.out
              have s4 := S4.out
              have j4 := hg4.out
              have j5 := hg5.out
              have ne45 : g4 ≠ g5 := by omega
              have w4g4 : w1.heap.size ≤ g4 := by omega
              have w4g5 : w1.heap.size ≤ g5 := by omega
              have o14 : ∀ k, ((Value.slice A1 nr k1).ownBlock = some k ∨ (Value.slice A2 nd k2).ownBlock = some k) → k ≠ g4 ∧ k ≠ g5 := fun k hk => by have := BL1.out k hk; omega
              have o24 : ∀ k, ((Value.slice A3 nr k3).ownBlock = some k ∨ (Value.slice A4 nd k4).ownBlock = some k) → k ≠ g4 ∧ k ≠ g5 := fun k hk => by have := BL2.out k hk; omega
              have o12 : ∀ k j, ((Value.slice A1 nr k1).ownBlock = some k ∨ (Value.slice A2 nd k2).ownBlock = some k) → ((Value.slice A3 nr k3).ownBlock = some j ∨ (Value.slice A4 nd k4).ownBlock = some j) → k ≠ j := fun k j hk hj => by have := BL1.out k hk; have := BL2.out j hj; omega
              exact leaf V4 g4 g5 A1 k1 A2 k2 A3 k3 A4 k4 ⟨T4, Q1.out, Q2.out, K4.out, K5.out, ne45, w4g4, w4g5, o14, o24, o12⟩
          · skip
            go_simp
            obtain ⟨V2, hV2⟩ : ∃ Z, V1.alloc (.cells #[.int .i64 0, .int .i64 0, .int .i64 0, .slice none 0 0, .slice none 0 0, .int .i64 0] 27) = Z := ⟨_, rfl⟩
            rw [hV2]
            have B2 : Below V1.heap.size V1 V2 := (al1 hV2).1
            have S2 := Lib.hid (al1 hV2).2
            have T2 : Below w1.heap.size w1 V2 := T1.trans (B2.mono T1.size)
            replace Q1 := Lib.hid (Q1.out.later B2)
            have K4 : Hid (Blk V2 V1.heap.size 27 #[.int .i64 0, .int .i64 0, .int .i64 0, .slice none 0 0, .slice none 0 0, .int .i64 0]) := Lib.hid (by rw [← hV2]; exact Blk.new V1 _ _)
            clear hV2
            obtain ⟨g4, hg4⟩ : ∃ g, V1.heap.size = g := ⟨_, rfl⟩
            rw [hg4] at K4 ⊢
            replace hg4 := Lib.hid hg4
            refine hK.out _ _ (fun _ => HSS.out V2 T2) (fun hS' => ?_)
            clear hK K hS'
            try simp only [List.getElem_toArray, List.getElem_cons_zero, List.getElem_cons_succ, Act.put, List.setIfInBounds_toArray, List.set_cons_zero, List.set_cons_succ]
            refine wpAnyL_two (i := 3) (j := 5) (by kernel_rfl) rfl rfl (fun K hK => ?_) (fun K hK => ?_)
            · skip
              go_simp
              go_at_call 11
              refine (HCP.out V2 T2).mono ?_
              rintro e V3 ⟨A3, k3, A4, k4, rfl, hO, B3⟩
              have T3 : Below w1.heap.size w1 V3 := T2.trans (B3.mono T2.size)
              have S3 := Lib.hid B3.size
              replace K4 := Lib.hid (K4.out.below B3 K4.out.lt)
              replace Q1 := Lib.hid (Q1.out.later B3)
              have BL2 := Lib.hid hO.blocks
              have Q2 := Lib.hid (hO.mono (base' := w1.heap.size) T2.size)
              clear hO
              refine hK.out _ _ (fun _ => HSS.out V3 T3) (fun hS' => ?_)
              clear hK K hS'
              try simp only [List.getElem_toArray, List.getElem_cons_zero, List.getElem_cons_succ, Act.put, List.setIfInBounds_toArray, List.set_cons_zero, List.set_cons_succ]
              refine wpAnyL_one (i := 5) (by kernel_rfl) rfl (fun K hK => ?_)
              go_simp
              obtain ⟨V4, hV4⟩ : ∃ Z, V3.alloc (.cells #[.int .i64 0, .int .i64 0, .int .i64 0, .slice none 0 0, .slice none 0 0, .int .i64 0] 27) = Z := ⟨_, rfl⟩
              rw [hV4]
              have B4 : Below V3.heap.size V3 V4 := (al1 hV4).1
              have S4 := Lib.hid (al1 hV4).2
              have T4 : Below w1.heap.size w1 V4 := T3.trans (B4.mono T3.size)
              replace K4 := Lib.hid (K4.out.below B4 K4.out.lt)
              replace Q1 := Lib.hid (Q1.out.later B4)
              replace Q2 := Lib.hid (Q2.out.later B4)
              have K5 : Hid (Blk V4 V3.heap.size 27 #[.int .i64 0, .int .i64 0, .int .i64 0, .slice none 0 0, .slice none 0 0, .int .i64 0]) := Lib.hid (by rw [← hV4]; exact Blk.new V3 _ _)
              clear hV4
              obtain ⟨g5, hg5⟩ : ∃ g, V3.heap.size = g := ⟨_, rfl⟩
              rw [hg5] at K5 ⊢
              replace hg5 := Lib.hid hg5
              refine hK.out _ _ (fun _ => HSS.out V4 T4) (fun hS' => ?_)
              clear hK K hS'
              try simp only [List.getElem_toArray, List.getElem_cons_zero, List.getElem_cons_succ, Act.put, List.setIfInBounds_toArray, List.set_cons_zero, List.set_cons_succ]
              have s0 := S0.out
              have s1 := S1.out
              have s2 := S2.out
              have s3 := S3.out
              have s4 := S4.out
              have j4 := hg4.out
              have j5 := hg5.out
              have ne45 : g4 ≠ g5 := by omega
              have w4g4 : w1.heap.size ≤ g4 := by omega
              have w4g5 : w1.heap.size ≤ g5 := by omega
              have o14 : ∀ k, ((Value.slice A1 nr k1).ownBlock = some k ∨ (Value.slice A2 nd k2).ownBlock = some k) → k ≠ g4 ∧ k ≠ g5 := fun k hk => by have := BL1.out k hk; omega
              have o24 : ∀ k, ((Value.slice A3 nr k3).ownBlock = some k ∨ (Value.slice A4 nd k4).ownBlock = some k) → k ≠ g4 ∧ k ≠ g5 := fun k hk => by have := BL2.out k hk; omega
              have o12 : ∀ k j, ((Value.slice A1 nr k1).ownBlock = some k ∨ (Value.slice A2 nd k2).ownBlock = some k) → ((Value.slice A3 nr k3).ownBlock = some j ∨ (Value.slice A4 nd k4).ownBlock = some j) → k ≠ j := fun k j hk hj => by have := BL1.out k hk; have := BL2.out j hj; omega
              exact leaf V4 g4 g5 A1 k1 A2 k2 A3 k3 A4 k4 ⟨T4, Q1.out, Q2.out, K4.out, K5.out, ne45, w4g4, w4g5, o14, o24, o12⟩
            · skip
              go_simp
              obtain ⟨V3, hV3⟩ : ∃ Z, V2.alloc (.cells #[.int .i64 0, .int .i64 0, .int .i64 0, .slice none 0 0, .slice none 0 0, .int .i64 0] 27) = Z := ⟨_, rfl⟩
              rw [hV3]
              have B3 : Below V2.heap.size V2 V3 := (al1 hV3).1
              have S3 := Lib.hid (al1 hV3).2
              have T3 : Below w1.heap.size w1 V3 := T2.trans (B3.mono T2.size)
              replace K4 := Lib.hid (K4.out.below B3 K4.out.lt)
              replace Q1 := Lib.hid (Q1.out.later B3)
              have K5 : Hid (Blk V3 V2.heap.size 27 #[.int .i64 0, .int .i64 0, .int .i64 0, .slice none 0 0, .slice none 0 0, .int .i64 0]) := Lib.hid (by rw [← hV3]; exact Blk.new V2 _ _)
              clear hV3
              obtain ⟨g5, hg5⟩ : ∃ g, V2.heap.size = g := ⟨_, rfl⟩
              rw [hg5] at K5 ⊢
              replace hg5 := Lib.hid hg5
              refine hK.out _ _ (fun _ => HSS.out V3 T3) (fun hS' => ?_)
              clear hK K hS'
              try simp only [List.getElem_toArray, List.getElem_cons_zero, List.getElem_cons_succ, Act.put, List.setIfInBounds_toArray, List.set_cons_zero, List.set_cons_succ]
              refine wpAnyL_one (i := 3) (by kernel_rfl) rfl (fun K hK => ?_)
              go_simp
              go_at_call 11
              refine (HCP.out V3 T3).mono ?_
              rintro e V4 ⟨A3, k3, A4, k4, rfl, hO, B4⟩
              have T4 : Below w1.heap.size w1 V4 := T3.trans (B4.mono T3.size)
              have S4 := Lib.hid B4.size
              replace K4 := Lib.hid (K4.out.below B4 K4.out.lt)
              replace K5 := Lib.hid (K5.out.below B4 K5.out.lt)
              replace Q1 := Lib.hid (Q1.out.later B4)
              have BL2 := Lib.hid hO.blocks
              have Q2 := Lib.hid (hO.mono (base' := w1.heap.size) T3.size)
              clear hO
              refine hK.out _ _ (fun _ => HSS.out V4 T4) (fun hS' => ?_)
              clear hK K hS'
              try simp only [List.getElem_toArray, List.getElem_cons_zero, List.getElem_cons_succ, Act.put, List.setIfInBounds_toArray, List.set_cons_zero, List.set_cons_succ]
              have s0 := S0.out
              have s1 := S1.out
              have s2 := S2.out
              have s3 := S3.out
              have s4 := S4.out
              have j4 := hg4.out
              have j5 := hg5.out
              have ne45 : g4 ≠ g5 := by omega
              have w4g4 : w1.heap.size ≤ g4 := by omega
              have w4g5 : w1.heap.size ≤ g5 := by omega
              have o14 : ∀ k, ((Value.slice A1 nr k1).ownBlock = some k ∨ (Value.slice A2 nd k2).ownBlock = some k) → k ≠ g4 ∧ k ≠ g5 := fun k hk => by have := BL1.out k hk; omega
              have o24 : ∀ k, ((Value.slice A3 nr k3).ownBlock = some k ∨ (Value.slice A4 nd k4).ownBlock = some k) → k ≠ g4 ∧ k ≠ g5 := fun k hk => by have := BL2.out k hk; omega
              have o12 : ∀ k j, ((Value.slice A1 nr k1).ownBlock = some k ∨ (Value.slice A2 nd k2).ownBlock = some k) → ((Value.slice A3 nr k3).ownBlock = some j ∨ (Value.slice A4 nd k4).ownBlock = some j) → k ≠ j := fun k j hk hj => by have := BL1.out k hk; have := BL2.out j hj; omega
              exact leaf V4 g4 g5 A1 k1 A2 k2 A3 k3 A4 k4 ⟨T4, Q1.out, Q2.out, K4.out, K5.out, ne45, w4g4, w4g5, o14, o24, o12⟩
          · skip
            go_simp
            obtain ⟨V2, hV2⟩ : ∃ Z, V1.alloc (.cells #[.int .i64 0, .int .i64 0, .int .i64 0, .slice none 0 0, .slice none 0 0, .int .i64 0] 27) = Z := ⟨_, rfl⟩
            rw [hV2]
            have B2 : Below V1.heap.size V1 V2 := (al1 hV2).1
            have S2 := Lib.hid (al1 hV2).2
            have T2 : Below w1.heap.size w1 V2 := T1.trans (B2.mono T1.size)
            replace Q1 := Lib.hid (Q1.out.later B2)
            have K5 : Hid (Blk V2 V1.heap.size 27 #[.int .i64 0, .int .i64 0, .int .i64 0, .slice none 0 0, .slice none 0 0, .int .i64 0]) := Lib.hid (by rw [← hV2]; exact Blk.new V1 _ _)
            clear hV2
            obtain ⟨g5, hg5⟩ : ∃ g, V1.heap.size = g := ⟨_, rfl⟩
            rw [hg5] at K5 ⊢
            replace hg5 := Lib.hid hg5
            refine hK.out _ _ (fun _ => HSS.out V2 T2) (fun hS' => ?_)
            clear hK K hS'
            try simp only [List.getElem_toArray, List.getElem_cons_zero, List.getElem_cons_succ, Act.put, List.setIfInBounds_toArray, List.set_cons_zero, List.set_cons_succ]
            refine wpAnyL_two (i := 3) (j := 4) (by kernel_rfl) rfl rfl (fun K hK => ?_) (fun K hK => ?_)
            · skip
              go_simp
              go_at_call 11
              refine (HCP.out V2 T2).mono ?_
              rintro e V3 ⟨A3, k3, A4, k4, rfl, hO, B3⟩
              have T3 : Below w1.heap.size w1 V3 := T2.trans (B3.mono T2.size)
              have S3 := Lib.hid B3.size
              replace K5 := Lib.hid (K5.out.below B3 K5.out.lt)
              replace Q1 := Lib.hid (Q1.out.later B3)
              have BL2 := Lib.hid hO.blocks
              have Q2 := Lib.hid (hO.mono (base' := w1.heap.size) T2.size)
              clear hO
              refine hK.out _ _ (fun _ => HSS.out V3 T3) (fun hS' => ?_)
              clear hK K hS'
              try simp only [List.getElem_toArray, List.getElem_cons_zero, List.getElem_cons_succ, Act.put, List.setIfInBounds_toArray, List.set_cons_zero, List.set_cons_succ]
              refine wpAnyL_one (i := 4) (by kernel_rfl) rfl (fun K hK => ?_)
              go_simp
              obtain ⟨V4, hV4⟩ : ∃ Z, V3.alloc (.cells #[.int .i64 0, .int .i64 0, .int .i64 0, .slice none 0 0, .slice none 0 0, .int .i64 0] 27) = Z := ⟨_, rfl⟩
              rw [hV4]
              have B4 : Below V3.heap.size V3 V4 := (al1 hV4).1
              have S4 := Lib.hid (al1 hV4).2
              have T4 : Below w1.heap.size w1 V4 := T3.trans (B4.mono T3.size)
              replace K5 := Lib.hid (K5.out.below B4 K5.out.lt)
              replace Q1 := Lib.hid (Q1.out.later B4)
              replace Q2 := Lib.hid (Q2.out.later B4)
              have K4 : Hid (Blk V4 V3.heap.size 27 #[.int .i64 0, .int .i64 0, .int .i64 0, .slice none 0 0, .slice none 0 0, .int .i64 0]) := Lib.hid (by rw [← hV4]; exact Blk.new V3 _ _)
              clear hV4
              obtain ⟨g4, hg4⟩ : ∃ g, V3.heap.size = g := ⟨_, rfl⟩
              rw [hg4] at K4 ⊢
              replace hg4 := Lib.hid hg4
              refine hK.out _ _ (fun _ => HSS.out V4 T4) (fun hS' => ?_)
              clear hK K hS'
              try simp only [List.getElem_toArray, List.getElem_cons_zero, List.getElem_cons_succ, Act.put, List.setIfInBounds_toArray, List.set_cons_zero, List.set_cons_succ]
              have s0 := S0.out
              have s1 := S1.out
              have s2 := S2.out
              have s3 := S3.out
              have s4 := S4.out
              have j4 := hg4.out
              have j5 := hg5.out
              have ne45 : g4 ≠ g5 := by omega
              have w4g4 : w1.heap.size ≤ g4 := by omega
              have w4g5 : w1.heap.size ≤ g5 := by omega
              have o14 : ∀ k, ((Value.slice A1 nr k1).ownBlock = some k ∨ (Value.slice A2 nd k2).ownBlock = some k) → k ≠ g4 ∧ k ≠ g5 := fun k hk => by have := BL1.out k hk; omega
              have o24 : ∀ k, ((Value.slice A3 nr k3).ownBlock = some k ∨ (Value.slice A4 nd k4).ownBlock = some k) → k ≠ g4 ∧ k ≠ g5 := fun k hk => by have := BL2.out k hk; omega
              have o12 : ∀ k j, ((Value.slice A1 nr k1).ownBlock = some k ∨ (Value.slice A2 nd k2).ownBlock = some k) → ((Value.slice A3 nr k3).ownBlock = some j ∨ (Value.slice A4 nd k4).ownBlock = some j) → k ≠ j := fun k j hk hj => by have := BL1.out k hk; have := BL2.out j hj; omega
              exact leaf V4 g4 g5 A1 k1 A2 k2 A3 k3 A4 k4 ⟨T4, Q1.out, Q2.out, K4.out, K5.out, ne45, w4g4, w4g5, o14, o24, o12⟩
            · skip
              go_simp
              obtain ⟨V3, hV3⟩ : ∃ Z, V2.alloc (.cells #[.int .i64 0, .int .i64 0, .int .i64 0, .slice none 0 0, .slice none 0 0, .int .i64 0] 27) = Z := ⟨_, rfl⟩
              rw [hV3]
              have B3 : Below V2.heap.size V2 V3 := (al1 hV3).1
              have S3 := Lib.hid (al1 hV3).2
              have T3 : Below w1.heap.size w1 V3 := T2.trans (B3.mono T2.size)
              replace K5 := Lib.hid (K5.out.below B3 K5.out.lt)
              replace Q1 := Lib.hid (Q1.out.later B3)
              have K4 : Hid (Blk V3 V2.heap.size 27 #[.int .i64 0, .int .i64 0, .int .i64 0, .slice none 0 0, .slice none 0 0, .int .i64 0]) := Lib.hid (by rw [← hV3]; exact Blk.new V2 _ _)
              clear hV3
              obtain ⟨g4, hg4⟩ : ∃ g, V2.heap.size = g := ⟨_, rfl⟩
              rw [hg4] at K4 ⊢
              replace hg4 := Lib.hid hg4
              refine hK.out _ _ (fun _ => HSS.out V3 T3) (fun hS' => ?_)
              clear hK K hS'
              try simp only [List.getElem_toArray, List.getElem_cons_zero, List.getElem_cons_succ, Act.put, List.setIfInBounds_toArray, List.set_cons_zero, List.set_cons_succ]
              refine wpAnyL_one (i := 3) (by kernel_rfl) rfl (fun K hK => ?_)
              go_simp
              go_at_call 11
              refine (HCP.out V3 T3).mono ?_
              rintro e V4 ⟨A3, k3, A4, k4, rfl, hO, B4⟩
              have T4 : Below w1.heap.size w1 V4 := T3.trans (B4.mono T3.size)
              have S4 := Lib.hid B4.size
              replace K4 := Lib.hid (K4.out.below B4 K4.out.lt)
              replace K5 := Lib.hid (K5.out.below B4 K5.out.lt)
              replace Q1 := Lib.hid (Q1.out.later B4)
              have BL2 := Lib.hid hO.blocks
              have Q2 := Lib.hid (hO.mono (base' := w1.heap.size) T3.size)
              clear hO
              refine hK.out _ _ (fun _ => HSS.out V4 T4) (fun hS' => ?_)
              clear hK K hS'
              try simp only [List.getElem_toArray, List.getElem_cons_zero, List.getElem_cons_succ, Act.put, List.setIfInBounds_toArray, List.set_cons_zero, List.set_cons_succ]
              have s0 := S0.out
              have s1 := S1.out
              have s2 := S2.out
              have s3 := S3.out
              have s4 := S4.out
              have j4 := hg4.out
              have j5 := hg5.out
              have ne45 : g4 ≠ g5 := by omega
              have w4g4 : w1.heap.size ≤ g4 := by omega
              have w4g5 : w1.heap.size ≤ g5 := by omega
              have o14 : ∀ k, ((Value.slice A1 nr k1).ownBlock = some k ∨ (Value.slice A2 nd k2).ownBlock = some k) → k ≠ g4 ∧ k ≠ g5 := fun k hk => by have := BL1.out k hk; omega
              have o24 : ∀ k, ((Value.slice A3 nr k3).ownBlock = some k ∨ (Value.slice A4 nd k4).ownBlock = some k) → k ≠ g4 ∧ k ≠ g5 := fun k hk => by have := BL2.out k hk; omega
              have o12 : ∀ k j, ((Value.slice A1 nr k1).ownBlock = some k ∨ (Value.slice A2 nd k2).ownBlock = some k) → ((Value.slice A3 nr k3).ownBlock = some j ∨ (Value.slice A4 nd k4).ownBlock = some j) → k ≠ j := fun k j hk hj => by have := BL1.out k hk; have := BL2.out j hj; omega
              exact leaf V4 g4 g5 A1 k1 A2 k2 A3 k3 A4 k4 ⟨T4, Q1.out, Q2.out, K4.out, K5.out, ne45, w4g4, w4g5, o14, o24, o12⟩
        · skip
          go_simp
          obtain ⟨V1, hV1⟩ : ∃ Z, V0.alloc (.cells #[.int .i64 0, .int .i64 0, .int .i64 0, .slice none 0 0, .slice none 0 0, .int .i64 0] 27) = Z := ⟨_, rfl⟩
          rw [hV1]
          have B1 : Below V0.heap.size V0 V1 := (al1 hV1).1
          have S1 := Lib.hid (al1 hV1).2
          have T1 : Below w1.heap.size w1 V1 := T0.trans (B1.mono T0.size)
          have K4 : Hid (Blk V1 V0.heap.size 27 #[.int .i64 0, .int .i64 0, .int .i64 0, .slice none 0 0, .slice none 0 0, .int .i64 0]) := Lib.hid (by rw [← hV1]; exact Blk.new V0 _ _)
          clear hV1
          obtain ⟨g4, hg4⟩ : ∃ g, V0.heap.size = g := ⟨_, rfl⟩
          rw [hg4] at K4 ⊢
          replace hg4 := Lib.hid hg4
          refine hK.out _ _ (fun _ => HSS.out V1 T1) (fun hS' => ?_)
          clear hK K hS'
          try simp only [List.getElem_toArray, List.getElem_cons_zero, List.getElem_cons_succ, Act.put, List.setIfInBounds_toArray, List.set_cons_zero, List.set_cons_succ]
          refine wpAnyL_two (i := 1) (j := 5) (by kernel_rfl) rfl rfl (fun K hK => ?_) (fun K hK => ?_)
          · skip
            go_simp
            go_at_call 11
            refine (HCP.out V1 T1).mono ?_
            rintro e V2 ⟨A1, k1, A2, k2, rfl, hO, B2⟩
            have T2 : Below w1.heap.size w1 V2 := T1.trans (B2.mono T1.size)
            have S2 := Lib.hid B2.size
            replace K4 := Lib.hid (K4.out.below B2 K4.out.lt)
            have BL1 := Lib.hid hO.blocks
            have Q1 := Lib.hid (hO.mono (base' := w1.heap.size) T1.size)
            clear hO
            refine hK.out _ _ (fun _ => HSS.out V2 T2) (fun hS' => ?_)
            clear hK K hS'
            try simp only [List.getElem_toArray, List.getElem_cons_zero, List.getElem_cons_succ, Act.put, List.setIfInBounds_toArray, List.set_cons_zero, List.set_cons_succ]
            refine wpAnyL_two (i := 3) (j := 5) (by kernel_rfl) rfl rfl (fun K hK => ?_) (fun K hK => ?_)
            · skip
              go_simp
              go_at_call 11
              refine (HCP.out V2 T2).mono ?_
              rintro e V3 ⟨A3, k3, A4, k4, rfl, hO, B3⟩
              have T3 : Below w1.heap.size w1 V3 := T2.trans (B3.mono T2.size)
              have S3 := Lib.hid B3.size
              replace K4 := Lib.hid (K4.out.below B3 K4.out.lt)
              replace Q1 := Lib.hid (Q1.out.later B3)
              have BL2 := Lib.hid hO.blocks
              have Q2 := Lib.hid (hO.mono (base' := w1.heap.size) T2.size)
              clear hO
              refine hK.out _ _ (fun _ => HSS.out V3 T3) (fun hS' => ?_)
              clear hK K hS'
              try simp only [List.getElem_toArray, List.getElem_cons_zero, List.getElem_cons_succ, Act.put, List.setIfInBounds_toArray, List.set_cons_zero, List.set_cons_succ]
              refine wpAnyL_one (i := 5) (by kernel_rfl) rfl (fun K hK => ?_)
              go_simp
              obtain ⟨V4, hV4⟩ : ∃ Z, V3.alloc (.cells #[.int .i64 0, .int .i64 0, .int .i64 0, .slice none 0 0, .slice none 0 0, .int .i64 0] 27) = Z := ⟨_, rfl⟩
              rw [hV4]
              have B4 : Below V3.heap.size V3 V4 := (al1 hV4).1
              have S4 := Lib.hid (al1 hV4).2
              have T4 : Below w1.heap.size w1 V4 := T3.trans (B4.mono T3.size)
              replace K4 := Lib.hid (K4.out.below B4 K4.out.lt)
              replace Q1 := Lib.hid (Q1.out.later B4)
              replace Q2 := Lib.hid (Q2.out.later B4)
              have K5 : Hid (Blk V4 V3.heap.size 27 #[.int .i64 0, .int .i64 0, .int .i64 0, .slice none 0 0, .slice none 0 0, .int .i64 0]) := Lib.hid (by rw [← hV4]; exact Blk.new V3 _ _)
              clear hV4
              obtain ⟨g5, hg5⟩ : ∃ g, V3.heap.size = g := ⟨_, rfl⟩
              rw [hg5] at K5 ⊢
              replace hg5 := Lib.hid hg5
              refine hK.out _ _ (fun _ => HSS.out V4 T4) (fun hS' => ?_)
              clear hK K hS'
              try simp only [List.getElem_toArray, List.getElem_cons_zero, List.getElem_cons_succ, Act.put, List.setIfInBounds_toArray, List.set_cons_zero, List.set_cons_succ]
              have s0 := S0.out
              have s1 := S1.out
              have s2 := S2.out
              have s3 := S3.out
              have s4 := S4.out
              have j4 := hg4.out
              have j5 := hg5.out
              have ne45 : g4 ≠ g5 := by omega
              have w4g4 : w1.heap.size ≤ g4 := by omega
              have w4g5 : w1.heap.size ≤ g5 := by omega
              have o14 : ∀ k, ((Value.slice A1 nr k1).ownBlock = some k ∨ (Value.slice A2 nd k2).ownBlock = some k) → k ≠ g4 ∧ k ≠ g5 := fun k hk => by have := BL1.out k hk; omega
              have o24 : ∀ k, ((Value.slice A3 nr k3).ownBlock = some k ∨ (Value.slice A4 nd k4).ownBlock = some k) → k ≠ g4 ∧ k ≠ g5 := fun k hk => by have := BL2.out k hk; omega
              have o12 : ∀ k j, ((Value.slice A1 nr k1).ownBlock = some k ∨ (Value.slice A2 nd k2).ownBlock = some k) → ((Value.slice A3 nr k3).ownBlock = some j ∨ (Value.slice A4 nd k4).ownBlock = some j) → k ≠ j := fun k j hk hj => by have := BL1.out k hk; have := BL2.out j hj; omega
              exact leaf V4 g4 g5 A1 k1 A2 k2 A3 k3 A4 k4 ⟨T4, Q1.out, Q2.out, K4.out, K5.out, ne45, w4g4, w4g5, o14, o24, o12⟩
            · skip
              go_simp
              obtain ⟨V3, hV3⟩ : ∃ Z, V2.alloc (.cells #[.int .i64 0, .int .i64 0, .int .i64 0, .slice none 0 0, .slice none 0 0, .int .i64 0] 27) = Z := ⟨_, rfl⟩
              rw [hV3]
              have B3 : Below V2.heap.size V2 V3 := (al1 hV3).1
              have S3 := Lib.hid (al1 hV3).2
              have T3 : Below w1.heap.size w1 V3 := T2.trans (B3.mono T2.size)
              replace K4 := Lib.hid (K4.out.below B3 K4.out.lt)
              replace Q1 := Lib.hid (Q1.out.later B3)
              have K5 : Hid (Blk V3 V2.heap.size 27 #[.int .i64 0, .int .i64 0, .int .i64 0, .slice none 0 0, .slice none 0 0, .int .i64 0]) := Lib.hid (by rw [← hV3]; exact Blk.new V2 _ _)
              clear hV3
              obtain ⟨g5, hg5⟩ : ∃ g, V2.heap.size = g := ⟨_, rfl⟩
              rw [hg5] at K5 ⊢
              replace hg5 := Lib.hid hg5
              refine hK.out _ _ (fun _ => HSS.out V3 T3) (fun hS' => ?_)
              clear hK K hS'
              try simp only [List.getElem_toArray, List.getElem_cons_zero, List.getElem_cons_succ, Act.put, List.setIfInBounds_toArray, List.set_cons_zero, List.set_cons_succ]
              refine wpAnyL_one (i := 3) (by kernel_rfl) rfl (fun K hK => ?_)
              go_simp
              go_at_call 11
              refine (HCP.out V3 T3).mono ?_
              rintro e V4 ⟨A3, k3, A4, k4, rfl, hO, B4⟩
              have T4 : Below w1.heap.size w1 V4 := T3.trans (B4.mono T3.size)
              have S4 := Lib.hid B4.size
              replace K4 := Lib.hid (K4.out.below B4 K4.out.lt)
              replace K5 := Lib.hid (K5.out.below B4 K5.out.lt)
              replace Q1 := Lib.hid (Q1.out.later B4)
              have BL2 := Lib.hid hO.blocks
              have Q2 := Lib.hid (hO.mono (base' := w1.heap.size) T3.size)
              clear hO
              refine hK.out _ _ (fun _ => HSS.out V4 T4) (fun hS' => ?_)
              clear hK K hS'
              try simp only [List.getElem_toArray, List.getElem_cons_zero, List.getElem_cons_succ, Act.put, List.setIfInBounds_toArray, List.set_cons_zero, List.set_cons_succ]
              have s0 := S0.out
              have s1 := S1.out
              have s2 := S2.out
              have s3 := S3.out
              have s4 := S4.out
              have j4 := hg4.out
              have j5 := hg5.out
              have ne45 : g4 ≠ g5 := by omega
              have w4g4 : w1.heap.size ≤ g4 := by omega
              have w4g5 : w1.heap.size ≤ g5 := by omega
              have o14 : ∀ k, ((Value.slice A1 nr k1).ownBlock = some k ∨ (Value.slice A2 nd k2).ownBlock = some k) → k ≠ g4 ∧ k ≠ g5 := fun k hk => by have := BL1.out k hk; omega
              have o24 : ∀ k, ((Value.slice A3 nr k3).ownBlock = some k ∨ (Value.slice A4 nd k4).ownBlock = some k) → k ≠ g4 ∧ k ≠ g5 := fun k hk => by have := BL2.out k hk; omega
              have o12 : ∀ k j, ((Value.slice A1 nr k1).ownBlock = some k ∨ (Value.slice A2 nd k2).ownBlock = some k) → ((Value.slice A3 nr k3).ownBlock = some j ∨ (Value.slice A4 nd k4).ownBlock = some j) → k ≠ j := fun k j hk hj => by have := BL1.out k hk; have := BL2.out j hj; omega
              exact leaf V4 g4 g5 A1 k1 A2 k2 A3 k3 A4 k4 ⟨T4, Q1.out, Q2.out, K4.out, K5.out, ne45, w4g4, w4g5, o14, o24, o12⟩
          · skip
            go_simp
            obtain ⟨V2, hV2⟩ : ∃ Z, V1.alloc (.cells #[.int .i64 0, .int .i64 0, .int .i64 0, .slice none 0 0, .slice none 0 0, .int .i64 0] 27) = Z := ⟨_, rfl⟩
            rw [hV2]
            have B2 : Below V1.heap.size V1 V2 := (al1 hV2).1
            have S2 := Lib.hid (al1 hV2).2
            have T2 : Below w1.heap.size w1 V2 := T1.trans (B2.mono T1.size)
            replace K4 := Lib.hid (K4.out.below B2 K4.out.lt)
            have K5 : Hid (Blk V2 V1.heap.size 27 #[.int .i64 0, .int .i64 0, .int .i64 0, .slice none 0 0, .slice none 0 0, .int .i64 0]) := Lib.hid (by rw [← hV2]; exact Blk.new V1 _ _)
            clear hV2
            obtain ⟨g5, hg5⟩ : ∃ g, V1.heap.size = g := ⟨_, rfl⟩
            rw [hg5] at K5 ⊢
            replace hg5 := Lib.hid hg5
            refine hK.out _ _ (fun _ => HSS.out V2 T2) (fun hS' => ?_)
            clear hK K hS'
            try simp only [List.getElem_toArray, List.getElem_cons_zero, List.getElem_cons_succ, Act.put, List.setIfInBounds_toArray, List.set_cons_zero, List.set_cons_succ]
            refine wpAnyL_one (i := 1) (by kernel_rfl) rfl (fun K hK => ?_)
            go_simp
            go_at_call 11
            refine (HCP.out V2 T2).mono ?_
            rintro e V3 ⟨A1, k1, A2, k2, rfl, hO, B3⟩
            have T3 : Below w1.heap.size w1 V3 := T2.trans (B3.mono T2.size)
            have S3 := Lib.hid B3.size
            replace K4 := Lib.hid (K4.out.below B3 K4.out.lt)
            replace K5 := Lib.hid (K5.out.below B3 K5.out.lt)
            have BL1 := Lib.hid hO.blocks
            have Q1 := Lib.hid (hO.mono (base' := w1.heap.size) T2.size)
            clear hO
            refine hK.out _ _ (fun _ => HSS.out V3 T3) (fun hS' => ?_)
            clear hK K hS'
            try simp only [List.getElem_toArray, List.getElem_cons_zero, List.getElem_cons_succ, Act.put, List.setIfInBounds_toArray, List.set_cons_zero, List.set_cons_succ]
            refine wpAnyL_one (i := 3) (by kernel_rfl) rfl (fun K hK => ?_)
            go_simp
            go_at_call 11
            refine (HCP.out V3 T3).mono ?_
            rintro e V4 ⟨A3, k3, A4, k4, rfl, hO, B4⟩
            have T4 : Below w1.heap.size w1 V4 := T3.trans (B4.mono T3.size)
            have S4 := Lib.hid B4.size
            replace K4 := Lib.hid (K4.out.below B4 K4.out.lt)
            replace K5 := Lib.hid (K5.out.below B4 K5.out.lt)
            replace Q1 := Lib.hid (Q1.out.later B4)
            have BL2 := Lib.hid hO.blocks
            have Q2 := Lib.hid (hO.mono (base' := w1.heap.size) T3.size)
            clear hO
            refine hK.out _ _ (fun _ => HSS.out V4 T4) (fun hS' => ?_)
            clear hK K hS'
            try simp only [List.getElem_toArray, List.getElem_cons_zero, List.getElem_cons_succ, Act.put, List.setIfInBounds_toArray, List.set_cons_zero, List.set_cons_succ]
            have s0 := S0.out
            have s1 := S1.out
            have s2 := S2.out
            have s3 := S3.out
            have s4 := S4.out
            have j4 := hg4.out
            have j5 := hg5.out
            have ne45 : g4 ≠ g5 := by omega
            have w4g4 : w1.heap.size ≤ g4 := by omega
            have w4g5 : w1.heap.size ≤ g5 := by omega
            have o14 : ∀ k, ((Value.slice A1 nr k1).ownBlock = some k ∨ (Value.slice A2 nd k2).ownBlock = some k) → k ≠ g4 ∧ k ≠ g5 := fun k hk => by have := BL1.out k hk; omega
            have o24 : ∀ k, ((Value.slice A3 nr k3).ownBlock = some k ∨ (Value.slice A4 nd k4).ownBlock = some k) → k ≠ g4 ∧ k ≠ g5 := fun k hk => by have := BL2.out k hk; omega
            have o12 : ∀ k j, ((Value.slice A1 nr k1).ownBlock = some k ∨ (Value.slice A2 nd k2).ownBlock = some k) → ((Value.slice A3 nr k3).ownBlock = some j ∨ (Value.slice A4 nd k4).ownBlock = some j) → k ≠ j := fun k j hk hj => by have := BL1.out k hk; have := BL2.out j hj; omega
            exact leaf V4 g4 g5 A1 k1 A2 k2 A3 k3 A4 k4 ⟨T4, Q1.out, Q2.out, K4.out, K5.out, ne45, w4g4, w4g5, o14, o24, o12⟩
        · skip
          go_simp
          obtain ⟨V1, hV1⟩ : ∃ Z, V0.alloc (.cells #[.int .i64 0, .int .i64 0, .int .i64 0, .slice none 0 0, .slice none 0 0, .int .i64 0] 27) = Z := ⟨_, rfl⟩
          rw [hV1]
          have B1 : Below V0.heap.size V0 V1 := (al1 hV1).1
          have S1 := Lib.hid (al1 hV1).2
          have T1 : Below w1.heap.size w1 V1 := T0.trans (B1.mono T0.size)
          have K5 : Hid (Blk V1 V0.heap.size 27 #[.int .i64 0, .int .i64 0, .int .i64 0, .slice none 0 0, .slice none 0 0, .int .i64 0]) := Lib.hid (by rw [← hV1]; exact Blk.new V0 _ _)
          clear hV1
          obtain ⟨g5, hg5⟩ : ∃ g, V0.heap.size = g := ⟨_, rfl⟩
          rw [hg5] at K5 ⊢
          replace hg5 := Lib.hid hg5
          refine hK.out _ _ (fun _ => HSS.out V1 T1) (fun hS' => ?_)
          clear hK K hS'
          try simp only [List.getElem_toArray, List.getElem_cons_zero, List.getElem_cons_succ, Act.put, List.setIfInBounds_toArray, List.set_cons_zero, List.set_cons_succ]
          refine wpAnyL_two (i := 1) (j := 4) (by kernel_rfl) rfl rfl (fun K hK => ?_) (fun K hK => ?_)
          · skip
            go_simp
            go_at_call 11
            refine (HCP.out V1 T1).mono ?_
            rintro e V2 ⟨A1, k1, A2, k2, rfl, hO, B2⟩
            have T2 : Below w1.heap.size w1 V2 := T1.trans (B2.mono T1.size)
            have S2 := Lib.hid B2.size
            replace K5 := Lib.hid (K5.out.below B2 K5.out.lt)
            have BL1 := Lib.hid hO.blocks
            have Q1 := Lib.hid (hO.mono (base' := w1.heap.size) T1.size)
            clear hO
            refine hK.out _ _ (fun _ => HSS.out V2 T2) (fun hS' => ?_)
            clear hK K hS'
            try simp only [List.getElem_toArray, List.getElem_cons_zero, List.getElem_cons_succ, Act.put, List.setIfInBounds_toArray, List.set_cons_zero, List.set_cons_succ]
            refine wpAnyL_two (i := 3) (j := 4) (by kernel_rfl) rfl rfl (fun K hK => ?_) (fun K hK => ?_)
            · skip
              go_simp
              go_at_call 11
              refine (HCP.out V2 T2).mono ?_
              rintro e V3 ⟨A3, k3, A4, k4, rfl, hO, B3⟩
              have T3 : Below w1.heap.size w1 V3 := T2.trans (B3.mono T2.size)
              have S3 := Lib.hid B3.size
              replace K5 := Lib.hid (K5.out.below B3 K5.out.lt)
              replace Q1 := Lib.hid (Q1.out.later B3)
              have BL2 := Lib.hid hO.blocks
              have Q2 := Lib.hid (hO.mono (base' := w1.heap.size) T2.size)
              clear hO
              refine hK.out _ _ (fun _ => HSS.out V3 T3) (fun hS' => ?_)
              clear hK K hS'
              try simp only [List.getElem_toArray, List.getElem_cons_zero, List.getElem_cons_succ, Act.put, List.setIfInBounds_toArray, List.set_cons_zero, List.set_cons_succ]
              refine wpAnyL_one (i := 4) (by kernel_rfl) rfl (fun K hK => ?_)
              go_simp
              obtain ⟨V4, hV4⟩ : ∃ Z, V3.alloc (.cells #[.int .i64 0, .int .i64 0, .int .i64 0, .slice none 0 0, .slice none 0 0, .int .i64 0] 27) = Z := ⟨_, rfl⟩
              rw [hV4]
              have B4 : Below V3.heap.size V3 V4 := (al1 hV4).1
              have S4 := Lib.hid (al1 hV4).2
              have T4 : Below w1.heap.size w1 V4 := T3.trans (B4.mono T3.size)
              replace K5 := Lib.hid (K5.out.below B4 K5.out.lt)
              replace Q1 := Lib.hid (Q1.out.later B4)
              replace Q2 := Lib.hid (Q2.out.later B4)
              have K4 : Hid (Blk V4 V3.heap.size 27 #[.int .i64 0, .int .i64 0, .int .i64 0, .slice none 0 0, .slice none 0 0, .int .i64 0]) := Lib.hid (by rw [← hV4]; exact Blk.new V3 _ _)
              clear hV4
              obtain ⟨g4, hg4⟩ : ∃ g, V3.heap.size = g := ⟨_, rfl⟩
              rw [hg4] at K4 ⊢
              replace hg4 := Lib.hid hg4
              refine hK.out _ _ (fun _ => HSS.out V4 T4) (fun hS' => ?_)
              clear hK K hS'
              try simp only [List.getElem_toArray, List.getElem_cons_zero, List.getElem_cons_succ, Act.put, List.setIfInBounds_toArray, List.set_cons_zero, List.set_cons_succ]
              have s0 := S0.out
              have s1 := S1.out
              have s2 := S2.out
              have s3 := S3.out
              have s4 := S4.out
              have j4 := hg4.out
              have j5 := hg5.out
              have ne45 : g4 ≠ g5 := by omega
              have w4g4 : w1.heap.size ≤ g4 := by omega
              have w4g5 : w1.heap.size ≤ g5 := by omega
              have o14 : ∀ k, ((Value.slice A1 nr k1).ownBlock = some k ∨ (Value.slice A2 nd k2).ownBlock = some k) → k ≠ g4 ∧ k ≠ g5 := fun k hk => by have := BL1.out k hk; omega
              have o24 : ∀ k, ((Value.slice A3 nr k3).ownBlock = some k ∨ (Value.slice A4 nd k4).ownBlock = some k) → k ≠ g4 ∧ k ≠ g5 := fun k hk => by have := BL2.out k hk; omega
              have o12 : ∀ k j, ((Value.slice A1 nr k1).ownBlock = some k ∨ (Value.slice A2 nd k2).ownBlock = some k) → ((Value.slice A3 nr k3).ownBlock = some j ∨ (Value.slice A4 nd k4).ownBlock = some j) → k ≠ j := fun k j hk hj => by have := BL1.out k hk; have := BL2.out j hj; omega
              exact leaf V4 g4 g5 A1 k1 A2 k2 A3 k3 A4 k4 ⟨T4, Q1.out, Q2.out, K4.out, K5.out, ne45, w4g4, w4g5, o14, o24, o12⟩
            · skip
              go_simp
              obtain ⟨V3, hV3⟩ : ∃ Z, V2.alloc (.cells #[.int .i64 0, .int .i64 0, .int .i64 0, .slice none 0 0, .slice none 0 0, .int .i64 0] 27) = Z := ⟨_, rfl⟩
              rw [hV3]
              have B3 : Below V2.heap.size V2 V3 := (al1 hV3).1
              have S3 := Lib.hid (al1 hV3).2
              have T3 : Below w1.heap.size w1 V3 := T2.trans (B3.mono T2.size)
              replace K5 := Lib.hid (K5.out.below B3 K5.out.lt)
              replace Q1 := Lib.hid (Q1.out.later B3)
              have K4 : Hid (Blk V3 V2.heap.size 27 #[.int .i64 0, .int .i64 0, .int .i64 0, .slice none 0 0, .slice none 0 0, .int .i64 0]) := Lib.hid (by rw [← hV3]; exact Blk.new V2 _ _)
              clear hV3
              obtain ⟨g4, hg4⟩ : ∃ g, V2.heap.size = g := ⟨_, rfl⟩
              rw [hg4] at K4 ⊢
              replace hg4 := Lib.hid hg4
              refine hK.out _ _ (fun _ => HSS.out V3 T3) (fun hS' => ?_)
              clear hK K hS'
              try simp only [List.getElem_toArray, List.getElem_cons_zero, List.getElem_cons_succ, Act.put, List.setIfInBounds_toArray, List.set_cons_zero, List.set_cons_succ]
              refine wpAnyL_one (i := 3) (by kernel_rfl) rfl (fun K hK => ?_)
              go_simp
              go_at_call 11
              refine (HCP.out V3 T3).mono ?_
              rintro e V4 ⟨A3, k3, A4, k4, rfl, hO, B4⟩
              have T4 : Below w1.heap.size w1 V4 := T3.trans (B4.mono T3.size)
              have S4 := Lib.hid B4.size
              replace K4 := Lib.hid (K4.out.below B4 K4.out.lt)
              replace K5 := Lib.hid (K5.out.below B4 K5.out.lt)
              replace Q1 := Lib.hid (Q1.out.later B4)
              have BL2 := Lib.hid hO.blocks
              have Q2 := Lib.hid (hO.mono (base' := w1.heap.size) T3.size)
              clear hO
              refine hK.out _ _ (fun _ => HSS.out V4 T4) (fun hS' => ?_)
              clear hK K hS'
              try simp only [List.getElem_toArray, List.getElem_cons_zero, List.getElem_cons_succ, Act.put, List.setIfInBounds_toArray, List.set_cons_zero, List.set_cons_succ]
              have s0 := S0.out
              have s1 := S1.out
              have s2 := S2.out
              have s3 := S3.out
              have s4 := S4.out
              have j4 := hg4.out
              have j5 := hg5.out
              have ne45 : g4 ≠ g5 := by omega
              have w4g4 : w1.heap.size ≤ g4 := by omega
              have w4g5 : w1.heap.size ≤ g5 := by omega
              have o14 : ∀ k, ((Value.slice A1 nr k1).ownBlock = some k ∨ (Value.slice A2 nd k2).ownBlock = some k) → k ≠ g4 ∧ k ≠ g5 := fun k hk => by have := BL1.out k hk; omega
              have o24 : ∀ k, ((Value.slice A3 nr k3).ownBlock = some k ∨ (Value.slice A4 nd k4).ownBlock = some k) → k ≠ g4 ∧ k ≠ g5 := fun k hk => by have := BL2.out k hk; omega
              have o12 : ∀ k j, ((Value.slice A1 nr k1).ownBlock = some k ∨ (Value.slice A2 nd k2).ownBlock = some k) → ((Value.slice A3 nr k3).ownBlock = some j ∨ (Value.slice A4 nd k4).ownBlock = some j) → k ≠ j := fun k j hk hj => by have := BL1.out k hk; have := BL2.out j hj; omega
              exact leaf V4 g4 g5 A1 k1 A2 k2 A3 k3 A4 k4 ⟨T4, Q1.out, Q2.out, K4.out, K5.out, ne45, w4g4, w4g5, o14, o24, o12⟩
          · skip
            go_simp
            obtain ⟨V2, hV2⟩ : ∃ Z, V1.alloc (.cells #[.int .i64 0, .int .i64 0, .int .i64 0, .slice none 0 0, .slice none 0 0, .int .i64 0] 27) = Z := ⟨_, rfl⟩
            rw [hV2]
            have B2 : Below V1.heap.size V1 V2 := (al1 hV2).1
            have S2 := Lib.hid (al1 hV2).2
            have T2 : Below w1.heap.size w1 V2 := T1.trans (B2.mono T1.size)
            replace K5 := Lib.hid (K5.out.below B2 K5.out.lt)
            have K4 : Hid (Blk V2 V1.heap.size 27 #[.int .i64 0, .int .i64 0, .int .i64 0, .slice none 0 0, .slice none 0 0, .int .i64 0]) := Lib.hid (by rw [← hV2]; exact Blk.new V1 _ _)
            clear hV2
            obtain ⟨g4, hg4⟩ : ∃ g, V1.heap.size = g := ⟨_, rfl⟩
            rw [hg4] at K4 ⊢
            replace hg4 := Lib.hid hg4
            refine hK.out _ _ (fun _ => HSS.out V2 T2) (fun hS' => ?_)
            clear hK K hS'
            try simp only [List.getElem_toArray, List.getElem_cons_zero, List.getElem_cons_succ, Act.put, List.setIfInBounds_toArray, List.set_cons_zero, List.set_cons_succ]
            refine wpAnyL_one (i := 1) (by kernel_rfl) rfl (fun K hK => ?_)
            go_simp
            go_at_call 11
            refine (HCP.out V2 T2).mono ?_
            rintro e V3 ⟨A1, k1, A2, k2, rfl, hO, B3⟩
            have T3 : Below w1.heap.size w1 V3 := T2.trans (B3.mono T2.size)
            have S3 := Lib.hid B3.size
            replace K4 := Lib.hid (K4.out.below B3 K4.out.lt)
            replace K5 := Lib.hid (K5.out.below B3 K5.out.lt)
            have BL1 := Lib.hid hO.blocks
            have Q1 := Lib.hid (hO.mono (base' := w1.heap.size) T2.size)
            clear hO
            refine hK.out _ _ (fun _ => HSS.out V3 T3) (fun hS' => ?_)
            clear hK K hS'
            try simp only [List.getElem_toArray, List.getElem_cons_zero, List.getElem_cons_succ, Act.put, List.setIfInBounds_toArray, List.set_cons_zero, List.set_cons_succ]
            refine wpAnyL_one (i := 3) (by kernel_rfl) rfl (fun K hK => ?_)
            go_simp
            go_at_call 11
            refine (HCP.out V3 T3).mono ?_
            rintro e V4 ⟨A3, k3, A4, k4, rfl, hO, B4⟩
            have T4 : Below w1.heap.size w1 V4 := T3.trans (B4.mono T3.size)
            have S4 := Lib.hid B4.size
            replace K4 := Lib.hid (K4.out.below B4 K4.out.lt)
            replace K5 := Lib.hid (K5.out.below B4 K5.out.lt)
            replace Q1 := Lib.hid (Q1.out.later B4)
            have BL2 := Lib.hid hO.blocks
            have Q2 := Lib.hid (hO.mono (base' := w1.heap.size) T3.size)
            clear hO
            refine hK.out _ _ (fun _ => HSS.out V4 T4) (fun hS' => ?_)
            clear hK K hS'
            try simp only [List.getElem_toArray, List.getElem_cons_zero, List.getElem_cons_succ, Act.put, List.setIfInBounds_toArray, List.set_cons_zero, List.set_cons_succ]
            have s0 := S0.out
            have s1 := S1.out
            have s2 := S2.out
            have s3 := S3.out
            have s4 := S4.out
            have j4 := hg4.out
            have j5 := hg5.out
            have ne45 : g4 ≠ g5 := by omega
            have w4g4 : w1.heap.size ≤ g4 := by omega
            have w4g5 : w1.heap.size ≤ g5 := by omega
            have o14 : ∀ k, ((Value.slice A1 nr k1).ownBlock = some k ∨ (Value.slice A2 nd k2).ownBlock = some k) → k ≠ g4 ∧ k ≠ g5 := fun k hk => by have := BL1.out k hk; omega
            have o24 : ∀ k, ((Value.slice A3 nr k3).ownBlock = some k ∨ (Value.slice A4 nd k4).ownBlock = some k) → k ≠ g4 ∧ k ≠ g5 := fun k hk => by have := BL2.out k hk; omega
            have o12 : ∀ k j, ((Value.slice A1 nr k1).ownBlock = some k ∨ (Value.slice A2 nd k2).ownBlock = some k) → ((Value.slice A3 nr k3).ownBlock = some j ∨ (Value.slice A4 nd k4).ownBlock = some j) → k ≠ j := fun k j hk hj => by have := BL1.out k hk; have := BL2.out j hj; omega
            exact leaf V4 g4 g5 A1 k1 A2 k2 A3 k3 A4 k4 ⟨T4, Q1.out, Q2.out, K4.out, K5.out, ne45, w4g4, w4g5, o14, o24, o12⟩
      case leaf =>
        intro V4 g4 g5 A1 k1 A2 k2 A3 k3 A4 k4 hp
        obtain ⟨T4, Q1, Q2, K4, K5, ne45, w4g4, w4g5, o14, o24, o12⟩ := hp
        replace Q1 := Lib.hid Q1
        replace Q2 := Lib.hid Q2
        replace K4 := Lib.hid K4
        replace K5 := Lib.hid K5
        have k4' := K4.out.cell
        have f4 := K4.out.frozen
        refine wpAnyL_one (i := 6) (by kernel_rfl) rfl (fun K hK => ?_)
        go_simp
        obtain ⟨V6, hV6⟩ : ∃ Z, ((((((V4.setCell ⟨g4, 0, none⟩ (.int .i64 ir)).setCell ⟨g4, 1, none⟩ (.int .i64 glo)).setCell ⟨g4, 2, none⟩ (.int .i64 ghi)).setCell ⟨g4, 3, none⟩ (.slice A1 nr k1)).setCell ⟨g4, 4, none⟩ (.slice A2 nd k2)).setCell ⟨g4, 5, none⟩ (.int .i64 wrg)) = Z := ⟨_, rfl⟩
        rw [hV6]
        have T6 : Below w1.heap.size w1 V6 := by rw [← hV6]; exact belSet6 T4 w4g4
        have H4 : Hid (Blk V6 g4 27 #[.int .i64 ir, .int .i64 glo, .int .i64 ghi, .slice A1 nr k1, .slice A2 nd k2, .int .i64 wrg]) := Lib.hid (by rw [← hV6]; have h := ((((((K4.out.set_ 0 (.int .i64 ir)).set_ 1 (.int .i64 glo)).set_ 2 (.int .i64 ghi)).set_ 3 (.slice A1 nr k1)).set_ 4 (.slice A2 nd k2)).set_ 5 (.int .i64 wrg)); simpa using h)
        have H5 : Hid (Blk V6 g5 27 #[.int .i64 0, .int .i64 0, .int .i64 0, .slice none 0 0, .slice none 0 0, .int .i64 0]) := Lib.hid (by rw [← hV6]; exact blkFar6 K5.out (Ne.symm ne45))
        have R1 : Hid (PuOwn w1.heap.size A1 nr k1 A2 nd k2 rods res V6) := Lib.hid (by rw [← hV6]; exact puFar6 Q1.out (fun k hk => (o14 k hk).1))
        have R2 : Hid (PuOwn w1.heap.size A3 nr k3 A4 nd k4 rods res V6) := Lib.hid (by rw [← hV6]; exact puFar6 Q2.out (fun k hk => (o24 k hk).1))
        clear hV6 k4' f4 Q1 Q2 K4 K5
        refine hK.out _ _ (fun _ => HSS.out V6 T6) (fun hS' => ?_)
        clear hK K hS'
        have k5 := H5.out.cell
        have f5 := H5.out.frozen
        refine wpAnyL_one (i := 7) (by kernel_rfl) rfl (fun K hK => ?_)
        go_simp
        obtain ⟨V7, hV7⟩ : ∃ Z, ((((((V6.setCell ⟨g5, 0, none⟩ (.int .i64 ir)).setCell ⟨g5, 1, none⟩ (.int .i64 glo)).setCell ⟨g5, 2, none⟩ (.int .i64 ghi)).setCell ⟨g5, 3, none⟩ (.slice A3 nr k3)).setCell ⟨g5, 4, none⟩ (.slice A4 nd k4)).setCell ⟨g5, 5, none⟩ (.int .i64 wrg)) = Z := ⟨_, rfl⟩
        rw [hV7]
        have T7 : Below w1.heap.size w1 V7 := by rw [← hV7]; exact belSet6 T6 w4g5
        have J5 : Hid (Blk V7 g5 27 #[.int .i64 ir, .int .i64 glo, .int .i64 ghi, .slice A3 nr k3, .slice A4 nd k4, .int .i64 wrg]) := Lib.hid (by rw [← hV7]; have h := ((((((H5.out.set_ 0 (.int .i64 ir)).set_ 1 (.int .i64 glo)).set_ 2 (.int .i64 ghi)).set_ 3 (.slice A3 nr k3)).set_ 4 (.slice A4 nd k4)).set_ 5 (.int .i64 wrg)); simpa using h)
        have J4 : Hid (Blk V7 g4 27 #[.int .i64 ir, .int .i64 glo, .int .i64 ghi, .slice A1 nr k1, .slice A2 nd k2, .int .i64 wrg]) := Lib.hid (by rw [← hV7]; exact blkFar6 H4.out ne45)
        have U1 : Hid (PuOwn w1.heap.size A1 nr k1 A2 nd k2 rods res V7) := Lib.hid (by rw [← hV7]; exact puFar6 R1.out (fun k hk => (o14 k hk).2))
        have U2 : Hid (PuOwn w1.heap.size A3 nr k3 A4 nd k4 rods res V7) := Lib.hid (by rw [← hV7]; exact puFar6 R2.out (fun k hk => (o24 k hk).2))
        clear hV7 k5 f5 R1 R2 H4 H5
        refine hK.out _ _ (fun h => absurd rfl h) (fun hS' => ?_)
        refine wpAnyL_done (by kernel_rfl) ?_ _
        clear hK K hS'
        go_wp2_with fail
        go_meet
        exact ⟨g4, g5, A1, k1, A2, k2, A3, k3, A4, k4, rfl, rfl, ⟨U1.out, U2.out, J4.out, J5.out, ne45, w4g4, w4g5, o14, o24, o12⟩, T7⟩
  case rest =>
    obtain ⟨g4, g5, A1, k1, A2, k2, A3, k3, A4, k4, rfl, rfl, TC, bW⟩ := hcut
    obtain ⟨Y, hY⟩ : ∃ Z, wc = Z := ⟨_, rfl⟩
    rw [hY] at TC bW ⊢
    clear hY
    have HO0 := Lib.hid TC.p1
    have HQ0 := Lib.hid TC.p2
    have H40 := Lib.hid TC.b4
    have H50 := Lib.hid TC.b5
    have w4g4 := TC.l4
    have w4g5 := TC.l5
    have O14 := Lib.hid TC.o1
    have O24 := Lib.hid TC.o2
    have O12 := Lib.hid TC.o12
    have ne45 := Lib.hid TC.ne
    clear TC
    go_wp2_with fail
    go_loopw [9] (fun i (wr : World) => ∃ k : Nat, k ≤ nd ∧ i = .int .i64 k ∧ Hid (PuOwn w1.heap.size A1 nr k1 A2 nd k2 rods (mtK tuE res k) wr) ∧ Hid (PuOwn w1.heap.size A3 nr k3 A4 nd k4 rods (rtK res bn k) wr) ∧ Hid (Blk wr g4 27 #[.int .i64 ir, .int .i64 glo, .int .i64 ghi, .slice A1 nr k1, .slice A2 nd k2, .int .i64 wrg]) ∧ Hid (Blk wr g5 27 #[.int .i64 ir, .int .i64 glo, .int .i64 ghi, .slice A3 nr k3, .slice A4 nd k4, .int .i64 wrg]) ∧ Below w1.heap.size w1 wr) (fun i _ => nd - (intOf i).toNat)
    case atStart => exact ⟨0, by omega, by simp, by show PuOwn _ _ _ _ _ _ _ _ _ _; rw [mtK_zero]; exact HO0.out, by show PuOwn _ _ _ _ _ _ _ _ _ _; rw [rtK_zero]; exact HQ0.out, H40, H50, bW⟩
    case round =>
      obtain ⟨k, hk, rfl, HO, HQ, H4, H5, hb⟩ := hrel
      have HP := Lib.hid (HPw1.out.below hb lw1)
      have kP := HP.out.cell
      have lP := HP.out.lt
      by_cases hlt : k < nd
      · have hqB : decide ((k : Int) < nd) = true := decide_eq_true (by omega)
        have vk : IntKind.i64.wrap ((k : Int) + 1) = (k : Int) + 1 := IntWalk.i64_in _ (by omega)
        have HMr := Lib.hid (HMI.out.later (Bw1.trans (hb.mono z01)))
        have E1 := (mtK_len tuE res k).trans HDL.out
        have E2 := (rtK_len res bn k).trans HDL.out
        obtain ⟨r, hr⟩ : ∃ r, (k + bn) % nd = r := ⟨_, rfl⟩
        have hrl : r < nd := by rw [← hr]; exact Nat.mod_lt _ (by omega)
        have vs : IntKind.i64.wrap ((k : Int) + bn) = (k : Int) + bn := IntWalk.i64_in _ (by omega)
        have vm : Int.tmod ((k : Int) + bn) (nd : Int) = (r : Int) := by
          rw [← hr, show (k : Int) + bn = ((k + bn : Nat) : Int) from rfl]
          rfl
        have vt : IntKind.i64.wrap (r : Int) = (r : Int) := IntWalk.i64_in _ (by omega)
        have zn : ¬ nd = 0 := by omega
        have i1 : decide ((k : Int) < nd) = true := hqB
        have i2 : decide ((r : Int) < nd) = true := decide_eq_true (by omega)
        obtain ⟨ga, c1', e1, hga0, hga1⟩ := HO.out.hl.form (by omega)
        cases e1
        obtain ⟨gb, c2', e2, hgb0, hgb1⟩ := HQ.out.hl.form (by omega)
        cases e2
        have na4 : g4 ≠ ga := Ne.symm (O14.out ga (.inr rfl)).1
        have na5 : g5 ≠ ga := Ne.symm (O14.out ga (.inr rfl)).2
        have nb4 : g4 ≠ gb := Ne.symm (O24.out gb (.inr rfl)).1
        have nb5 : g5 ≠ gb := Ne.symm (O24.out gb (.inr rfl)).2
        have hqa : Hid (∀ j, ((Value.slice A3 nr k3).ownBlock = some j ∨ (Value.slice (some ⟨gb, 0, none⟩) nd k4).ownBlock = some j) → j ≠ ga) := Lib.hid fun j hj => Ne.symm (O12.out ga j (.inr rfl) hj)
        have hob : Hid (∀ j, ((Value.slice A1 nr k1).ownBlock = some j ∨ (Value.slice (some ⟨ga, 0, none⟩) nd k2).ownBlock = some j) → j ≠ gb) := Lib.hid fun j hj => O12.out j gb hj (.inr rfl)
        obtain ⟨bd, off, eA, hbd, d0, -, -, -, -, -, -⟩ := HMr.out.hd.get hlt
        cases eA
        have hx := (HRE.out k hlt).1
        obtain ⟨⟨x0, x1, x2, x3, x4, x5, x6⟩, hxe⟩ : ∃ y, reAt res k = y := ⟨_, rfl⟩
        obtain ⟨⟨y0, y1, y2, y3, y4, y5, y6⟩, hye⟩ : ∃ y, reAt res r = y := ⟨_, rfl⟩
        simp only [hxe] at d0 hx
        have v3 : IntKind.i64.wrap (3 - x0) = 3 - x0 := IntWalk.i64_in _ (by omega)
        have hE : reAt (mtK tuE res k) k = ⟨x0, x1, x2, x3, x4, x5, x6⟩ := (mtK_at _ _ _).trans hxe
        have hS1 : (mtK tuE res k).set k ⟨3 - x0, x1, x2, x3, x4, x5, x6⟩ = mtK tuE res (k + 1) := by
          have := mtK_set tuE res (k := k) (by rw [HDL.out]; exact hlt) ⟨0, 0, 0, 0, 0, 0, 0⟩
          rw [← this]
          show _ = (mtK tuE res k).set k (tuE (reAt res k))
          rw [hxe]; rfl
        have hS2 : (rtK res bn k).set k ⟨y0, y1, y2, y3, y4, y5, y6⟩ = rtK res bn (k + 1) := by
          have := rtK_set (l := res) (by' := bn) (k := k) (by rw [HDL.out]; exact hlt)
          rw [← this, HDL.out, hr, hye]
        have HE := Lib.hid hE
        have HS1 := Lib.hid hS1
        have HS2 := Lib.hid hS2
        have HE1 := Lib.hid E1
        have HE2 := Lib.hid E2
        have HLO := Lib.hid (HO.out.reC E1 hlt)
        rw [hE] at HLO
        obtain ⟨c0, -, -, -, -, -, -, fz, lg⟩ := HLO.out
        have k4c := H4.out.cell
        have l4c := H4.out.lt
        have HYE := Lib.hid hye
        clear hE hS1 hS2 E1 E2 HLO hr hxe hye hx
        go_upto_region 7 with (fail)
        have hS : (∀ j, wr.drew.cell? ⟨g4, j, none⟩ = #[Value.int .i64 ir, .int .i64 glo, .int .i64 ghi, .slice A1 nr k1, .slice (some ⟨ga, 0, none⟩) nd k2, .int .i64 wrg][j]?) ∧ (∀ j, wr.drew.cell? ⟨w.heap.size, j, none⟩ = #[Value.int .i64 ir, .int .i64 glo, .int .i64 ghi, .slice Ar nr cr, .slice (some ⟨bd, off, none⟩) nd cd, .int .i64 wrg][j]?) ∧ wr.drew.cell? ⟨bd, off + k * 7, none⟩ = some (.int .i64 x0) := ⟨fun j => k4c j, fun j => kP j, d0⟩
        refine wp_region_L (by kernel_rfl) (fun W' => (∀ j, W'.cell? ⟨g4, j, none⟩ = #[Value.int .i64 ir, .int .i64 glo, .int .i64 ghi, .slice A1 nr k1, .slice (some ⟨ga, 0, none⟩) nd k2, .int .i64 wrg][j]?) ∧ (∀ j, W'.cell? ⟨w.heap.size, j, none⟩ = #[Value.int .i64 ir, .int .i64 glo, .int .i64 ghi, .slice Ar nr cr, .slice (some ⟨bd, off, none⟩) nd cd, .int .i64 wrg][j]?) ∧ W'.cell? ⟨bd, off + k * 7, none⟩ = some (.int .i64 x0)) 12 ?_
        refine wpAnyL_take (i := 0) (v := ?_) rfl (by kernel_rfl) (by kernel_rfl) (by kernel_rfl) (by kernel_rfl) (fun _ _ _ h => h) hS (Or.inl ⟨by rfl, ?_⟩) ?_
        rotate_left 1
        · intro w9 k0
          obtain ⟨s0, s1, s2⟩ := k0
          go_simp
          try with_reducible rfl
        try simp only [List.getElem_toArray, List.getElem_cons_zero, Act.put, List.setIfInBounds_toArray, List.set_cons_zero, List.set_cons_succ]
        refine wpAnyL_take (i := 1) (v := ?_) rfl (by kernel_rfl) (by kernel_rfl) (by kernel_rfl) (by kernel_rfl) (fun _ _ _ h => h) hS (Or.inl ⟨by rfl, ?_⟩) ?_
        rotate_left 1
        · intro w9 k0
          obtain ⟨s0, s1, s2⟩ := k0
          go_simp
          try with_reducible rfl
        try simp only [List.getElem_toArray, List.getElem_cons_zero, List.getElem_cons_succ, Act.put, List.setIfInBounds_toArray, List.set_cons_zero, List.set_cons_succ]
        refine wpAnyL_take (i := 2) (v := ?_) rfl (by kernel_rfl) (by kernel_rfl) (by kernel_rfl) (by kernel_rfl) (fun _ _ _ h => h) hS (Or.inl ⟨by rfl, ?_⟩) ?_
        rotate_left 1
        · intro w9 k0
          obtain ⟨s0, s1, s2⟩ := k0
          go_simp
          try with_reducible rfl
        try simp only [List.getElem_toArray, List.getElem_cons_zero, List.getElem_cons_succ, Act.put, List.setIfInBounds_toArray, List.set_cons_zero, List.set_cons_succ]
        refine wpAnyL_take (i := 3) (v := ?_) rfl (by kernel_rfl) (by kernel_rfl) (by kernel_rfl) (by kernel_rfl) (fun _ _ _ h => h) hS (Or.inl ⟨by rfl, ?_⟩) ?_
        rotate_left 1
        · intro w9 k0
          obtain ⟨s0, s1, s2⟩ := k0
          go_simp
          try with_reducible rfl
        try simp only [List.getElem_toArray, List.getElem_cons_zero, List.getElem_cons_succ, Act.put, List.setIfInBounds_toArray, List.set_cons_zero, List.set_cons_succ]
        refine wpAnyL_take (i := 4) (v := ?_) rfl (by kernel_rfl) (by kernel_rfl) (by kernel_rfl) (by kernel_rfl) (fun _ _ _ h => h) hS (Or.inl ⟨by rfl, ?_⟩) ?_
        rotate_left 1
        · intro w9 k0
          obtain ⟨s0, s1, s2⟩ := k0
          go_simp
          try with_reducible rfl
        try simp only [List.getElem_toArray, List.getElem_cons_zero, List.getElem_cons_succ, Act.put, List.setIfInBounds_toArray, List.set_cons_zero, List.set_cons_succ]
        refine wpAnyL_take (i := 5) (v := ?_) rfl (by kernel_rfl) (by kernel_rfl) (by kernel_rfl) (by kernel_rfl) (fun _ _ _ h => h) hS (Or.inl ⟨by rfl, ?_⟩) ?_
        rotate_left 1
        · intro w9 k0
          obtain ⟨s0, s1, s2⟩ := k0
          go_simp
          try with_reducible rfl
        try simp only [List.getElem_toArray, List.getElem_cons_zero, List.getElem_cons_succ, Act.put, List.setIfInBounds_toArray, List.set_cons_zero, List.set_cons_succ]
        refine wpAnyL_take (i := 6) (v := ?_) rfl (by kernel_rfl) (by kernel_rfl) (by kernel_rfl) (by kernel_rfl) (fun _ _ _ h => h) hS (Or.inl ⟨by rfl, ?_⟩) ?_
        rotate_left 1
        · intro w9 k0
          obtain ⟨s0, s1, s2⟩ := k0
          go_simp
          try with_reducible rfl
        try simp only [List.getElem_toArray, List.getElem_cons_zero, List.getElem_cons_succ, Act.put, List.setIfInBounds_toArray, List.set_cons_zero, List.set_cons_succ]
        refine wpAnyL_take (i := 7) (v := ?_) rfl (by kernel_rfl) (by kernel_rfl) (by kernel_rfl) (by kernel_rfl) (fun _ _ _ h => h) hS (Or.inl ⟨by rfl, ?_⟩) ?_
        rotate_left 1
        · intro w9 k0
          obtain ⟨s0, s1, s2⟩ := k0
          go_simp
          try with_reducible rfl
        try simp only [List.getElem_toArray, List.getElem_cons_zero, List.getElem_cons_succ, Act.put, List.setIfInBounds_toArray, List.set_cons_zero, List.set_cons_succ]
        refine wpAnyL_take (i := 8) (v := ?_) rfl (by kernel_rfl) (by kernel_rfl) (by kernel_rfl) (by kernel_rfl) (fun _ _ _ h => h) hS (Or.inl ⟨by rfl, ?_⟩) ?_
        rotate_left 1
        · intro w9 k0
          obtain ⟨s0, s1, s2⟩ := k0
          go_simp
          try with_reducible rfl
        try simp only [List.getElem_toArray, List.getElem_cons_zero, List.getElem_cons_succ, Act.put, List.setIfInBounds_toArray, List.set_cons_zero, List.set_cons_succ]
        refine wpAnyL_take (i := 9) (v := ?_) rfl (by kernel_rfl) (by kernel_rfl) (by kernel_rfl) (by kernel_rfl) (fun _ _ _ h => h) hS (Or.inl ⟨by rfl, ?_⟩) ?_
        rotate_left 1
        · intro w9 k0
          obtain ⟨s0, s1, s2⟩ := k0
          go_simp
          try with_reducible rfl
        try simp only [List.getElem_toArray, List.getElem_cons_zero, List.getElem_cons_succ, Act.put, List.setIfInBounds_toArray, List.set_cons_zero, List.set_cons_succ]
        refine wpAnyL_one (i := 10) (by kernel_rfl) rfl (fun K hK => ?_)
        go_simp
        refine hK.out _ _ (fun _ => hS) (fun hS' => ?_)
        clear hK K hS'
        try simp only [List.getElem_toArray, List.getElem_cons_zero, List.getElem_cons_succ, Act.put, List.setIfInBounds_toArray, List.set_cons_zero, List.set_cons_succ]
        refine wpAnyL_take (i := 11) (v := ?_) rfl (by kernel_rfl) (by kernel_rfl) (by kernel_rfl) (by kernel_rfl) (fun _ _ _ h => h) hS (Or.inl ⟨by rfl, ?_⟩) ?_
        rotate_left 1
        · intro w9 k0
          obtain ⟨s0, s1, s2⟩ := k0
          go_simp
          try with_reducible rfl
        try simp only [List.getElem_toArray, List.getElem_cons_zero, List.getElem_cons_succ, Act.put, List.setIfInBounds_toArray, List.set_cons_zero, List.set_cons_succ]
        refine wpAnyL_one (i := 12) (by kernel_rfl) rfl (fun K hK => ?_)
        go_simp
        refine hK.out _ _ (fun h => absurd rfl h) (fun hS' => ?_)
        refine wpAnyL_done (by kernel_rfl) ?_ _
        clear hS hK K hS'
        go_upto_region 8 with (fail)
        go_name_world Z hZ
        have HOZ := Lib.hid (by rw [← hZ]; exact PuOwn.setRe ⟨HO.out.hp.drew, HO.out.hl.drew, HO.out.ne⟩ HE1.out hlt (j := 0) (by omega) ⟨3 - x0, x1, x2, x3, x4, x5, x6⟩ _ (by rw [HE.out]; rfl) : PuOwn w1.heap.size A1 nr k1 (some ⟨ga, 0, none⟩) nd k2 rods ((mtK tuE res k).set k ⟨3 - x0, x1, x2, x3, x4, x5, x6⟩) Z)
        rw [HS1.out] at HOZ
        have HQZ := Lib.hid (by rw [← hZ]; exact PuOwn.far ⟨HQ.out.hp.drew, HQ.out.hl.drew, HQ.out.ne⟩ _ hqa.out : PuOwn w1.heap.size A3 nr k3 (some ⟨gb, 0, none⟩) nd k4 rods (rtK res bn k) Z)
        have H4Z := Lib.hid (by rw [← hZ]; exact H4.out.drew.far (by show g4 ≠ ga; exact na4) _ : Blk Z g4 27 #[Value.int .i64 ir, .int .i64 glo, .int .i64 ghi, .slice A1 nr k1, .slice (some ⟨ga, 0, none⟩) nd k2, .int .i64 wrg])
        have H5Z := Lib.hid (by rw [← hZ]; exact H5.out.drew.far (by show g5 ≠ ga; exact na5) _ : Blk Z g5 27 #[Value.int .i64 ir, .int .i64 glo, .int .i64 ghi, .slice A3 nr k3, .slice (some ⟨gb, 0, none⟩) nd k4, .int .i64 wrg])
        have bZ : Below w1.heap.size w1 Z := by rw [← hZ]; exact (Below.drew hb).setCell (by show w1.heap.size ≤ ga; exact hga0) _
        have HPZ := Lib.hid (HPw1.out.below bZ lw1)
        have HMZ := Lib.hid (HMI.out.later (Bw1.trans (bZ.mono z01)))
        obtain ⟨bd', off', eB, -, d0', d1', d2', d3', d4', d5', d6'⟩ := HMZ.out.hd.get hrl
        cases eB
        rw [HYE.out] at d0' d1' d2' d3' d4' d5' d6'
        simp only at d0' d1' d2' d3' d4' d5' d6'
        have k5Z := H5Z.out.cell
        have l5Z := H5Z.out.lt
        have kPZ := HPZ.out.cell
        have lPZ := HPZ.out.lt
        obtain ⟨⟨t0, t1, t2, t3, t4, t5, t6⟩, hte⟩ : ∃ y, reAt (rtK res bn k) k = y := ⟨_, rfl⟩
        have HRC := Lib.hid (HQZ.out.reC HE2.out hlt)
        rw [hte] at HRC
        clear hZ kP lP k4c l4c c0 fz lg d0 hte
        have hS : (∀ j, Z.drew.cell? ⟨g5, j, none⟩ = #[Value.int .i64 ir, .int .i64 glo, .int .i64 ghi, .slice A3 nr k3, .slice (some ⟨gb, 0, none⟩) nd k4, .int .i64 wrg][j]?) ∧ (∀ j, Z.drew.cell? ⟨w.heap.size, j, none⟩ = #[Value.int .i64 ir, .int .i64 glo, .int .i64 ghi, .slice Ar nr cr, .slice (some ⟨bd, off, none⟩) nd cd, .int .i64 wrg][j]?) ∧ Z.drew.cell? ⟨bd, off + r * 7, none⟩ = some (.int .i64 y0) ∧ Z.drew.cell? ⟨bd, off + r * 7 + 1, none⟩ = some (.int .i64 y1) ∧ Z.drew.cell? ⟨bd, off + r * 7 + 2, none⟩ = some (.int .i64 y2) ∧ Z.drew.cell? ⟨bd, off + r * 7 + 3, none⟩ = some (.int .i64 y3) ∧ Z.drew.cell? ⟨bd, off + r * 7 + 4, none⟩ = some (.int .i64 y4) ∧ Z.drew.cell? ⟨bd, off + r * 7 + 5, none⟩ = some (.int .i64 y5) ∧ Z.drew.cell? ⟨bd, off + r * 7 + 6, none⟩ = some (.int .i64 y6) := ⟨fun j => k5Z j, fun j => kPZ j, d0', d1', d2', d3', d4', d5', d6'⟩
        clear d0' d1' d2' d3' d4' d5' d6'
        refine wp_region_L (by kernel_rfl) (fun W' => (∀ j, W'.cell? ⟨g5, j, none⟩ = #[Value.int .i64 ir, .int .i64 glo, .int .i64 ghi, .slice A3 nr k3, .slice (some ⟨gb, 0, none⟩) nd k4, .int .i64 wrg][j]?) ∧ (∀ j, W'.cell? ⟨w.heap.size, j, none⟩ = #[Value.int .i64 ir, .int .i64 glo, .int .i64 ghi, .slice Ar nr cr, .slice (some ⟨bd, off, none⟩) nd cd, .int .i64 wrg][j]?) ∧ W'.cell? ⟨bd, off + r * 7, none⟩ = some (.int .i64 y0) ∧ W'.cell? ⟨bd, off + r * 7 + 1, none⟩ = some (.int .i64 y1) ∧ W'.cell? ⟨bd, off + r * 7 + 2, none⟩ = some (.int .i64 y2) ∧ W'.cell? ⟨bd, off + r * 7 + 3, none⟩ = some (.int .i64 y3) ∧ W'.cell? ⟨bd, off + r * 7 + 4, none⟩ = some (.int .i64 y4) ∧ W'.cell? ⟨bd, off + r * 7 + 5, none⟩ = some (.int .i64 y5) ∧ W'.cell? ⟨bd, off + r * 7 + 6, none⟩ = some (.int .i64 y6)) 15 ?_
        refine wpAnyL_take (i := 0) (v := ?_) rfl (by kernel_rfl) (by kernel_rfl) (by kernel_rfl) (by kernel_rfl) (fun _ _ _ h => h) hS (Or.inl ⟨by rfl, ?_⟩) ?_
        rotate_left 1
        · intro w9 k0
          obtain ⟨s0, s1, s2, s3, s4, s5, s6, s7, s8⟩ := k0
          go_simp
          try with_reducible rfl
        try simp only [List.getElem_toArray, List.getElem_cons_zero, Act.put, List.setIfInBounds_toArray, List.set_cons_zero, List.set_cons_succ]
        refine wpAnyL_take (i := 1) (v := ?_) rfl (by kernel_rfl) (by kernel_rfl) (by kernel_rfl) (by kernel_rfl) (fun _ _ _ h => h) hS (Or.inl ⟨by rfl, ?_⟩) ?_
        rotate_left 1
        · intro w9 k0
          obtain ⟨s0, s1, s2, s3, s4, s5, s6, s7, s8⟩ := k0
          go_simp
          try with_reducible rfl
        try simp only [List.getElem_toArray, List.getElem_cons_zero, List.getElem_cons_succ, Act.put, List.setIfInBounds_toArray, List.set_cons_zero, List.set_cons_succ]
        refine wpAnyL_take (i := 2) (v := ?_) rfl (by kernel_rfl) (by kernel_rfl) (by kernel_rfl) (by kernel_rfl) (fun _ _ _ h => h) hS (Or.inl ⟨by rfl, ?_⟩) ?_
        rotate_left 1
        · intro w9 k0
          obtain ⟨s0, s1, s2, s3, s4, s5, s6, s7, s8⟩ := k0
          go_simp
          try with_reducible rfl
        try simp only [List.getElem_toArray, List.getElem_cons_zero, List.getElem_cons_succ, Act.put, List.setIfInBounds_toArray, List.set_cons_zero, List.set_cons_succ]
        refine wpAnyL_take (i := 3) (v := ?_) rfl (by kernel_rfl) (by kernel_rfl) (by kernel_rfl) (by kernel_rfl) (fun _ _ _ h => h) hS (Or.inl ⟨by rfl, ?_⟩) ?_
        rotate_left 1
        · intro w9 k0
          obtain ⟨s0, s1, s2, s3, s4, s5, s6, s7, s8⟩ := k0
          go_simp
          try with_reducible rfl
        try simp only [List.getElem_toArray, List.getElem_cons_zero, List.getElem_cons_succ, Act.put, List.setIfInBounds_toArray, List.set_cons_zero, List.set_cons_succ]
        refine wpAnyL_take (i := 4) (v := ?_) rfl (by kernel_rfl) (by kernel_rfl) (by kernel_rfl) (by kernel_rfl) (fun _ _ _ h => h) hS (Or.inl ⟨by rfl, ?_⟩) ?_
        rotate_left 1
        · intro w9 k0
          obtain ⟨s0, s1, s2, s3, s4, s5, s6, s7, s8⟩ := k0
          go_simp
          try with_reducible rfl
        try simp only [List.getElem_toArray, List.getElem_cons_zero, List.getElem_cons_succ, Act.put, List.setIfInBounds_toArray, List.set_cons_zero, List.set_cons_succ]
        refine wpAnyL_take (i := 5) (v := ?_) rfl (by kernel_rfl) (by kernel_rfl) (by kernel_rfl) (by kernel_rfl) (fun _ _ _ h => h) hS (Or.inl ⟨by rfl, ?_⟩) ?_
        rotate_left 1
        · intro w9 k0
          obtain ⟨s0, s1, s2, s3, s4, s5, s6, s7, s8⟩ := k0
          go_simp
          try with_reducible rfl
        try simp only [List.getElem_toArray, List.getElem_cons_zero, List.getElem_cons_succ, Act.put, List.setIfInBounds_toArray, List.set_cons_zero, List.set_cons_succ]
        refine wpAnyL_take (i := 6) (v := ?_) rfl (by kernel_rfl) (by kernel_rfl) (by kernel_rfl) (by kernel_rfl) (fun _ _ _ h => h) hS (Or.inl ⟨by rfl, ?_⟩) ?_
        rotate_left 1
        · intro w9 k0
          obtain ⟨s0, s1, s2, s3, s4, s5, s6, s7, s8⟩ := k0
          go_simp
          try with_reducible rfl
        try simp only [List.getElem_toArray, List.getElem_cons_zero, List.getElem_cons_succ, Act.put, List.setIfInBounds_toArray, List.set_cons_zero, List.set_cons_succ]
        refine wpAnyL_take (i := 7) (v := ?_) rfl (by kernel_rfl) (by kernel_rfl) (by kernel_rfl) (by kernel_rfl) (fun _ _ _ h => h) hS (Or.inl ⟨by rfl, ?_⟩) ?_
        rotate_left 1
        · intro w9 k0
          obtain ⟨s0, s1, s2, s3, s4, s5, s6, s7, s8⟩ := k0
          go_simp
          try with_reducible rfl
        try simp only [List.getElem_toArray, List.getElem_cons_zero, List.getElem_cons_succ, Act.put, List.setIfInBounds_toArray, List.set_cons_zero, List.set_cons_succ]
        refine wpAnyL_take (i := 8) (v := ?_) rfl (by kernel_rfl) (by kernel_rfl) (by kernel_rfl) (by kernel_rfl) (fun _ _ _ h => h) hS (Or.inl ⟨by rfl, ?_⟩) ?_
        rotate_left 1
        · intro w9 k0
          obtain ⟨s0, s1, s2, s3, s4, s5, s6, s7, s8⟩ := k0
          go_simp
          try with_reducible rfl
        try simp only [List.getElem_toArray, List.getElem_cons_zero, List.getElem_cons_succ, Act.put, List.setIfInBounds_toArray, List.set_cons_zero, List.set_cons_succ]
        refine wpAnyL_take (i := 9) (v := ?_) rfl (by kernel_rfl) (by kernel_rfl) (by kernel_rfl) (by kernel_rfl) (fun _ _ _ h => h) hS (Or.inl ⟨by rfl, ?_⟩) ?_
        rotate_left 1
        · intro w9 k0
          obtain ⟨s0, s1, s2, s3, s4, s5, s6, s7, s8⟩ := k0
          go_simp
          try with_reducible rfl
        try simp only [List.getElem_toArray, List.getElem_cons_zero, List.getElem_cons_succ, Act.put, List.setIfInBounds_toArray, List.set_cons_zero, List.set_cons_succ]
        refine wpAnyL_take (i := 10) (v := ?_) rfl (by kernel_rfl) (by kernel_rfl) (by kernel_rfl) (by kernel_rfl) (fun _ _ _ h => h) hS (Or.inl ⟨by rfl, ?_⟩) ?_
        rotate_left 1
        · intro w9 k0
          obtain ⟨s0, s1, s2, s3, s4, s5, s6, s7, s8⟩ := k0
          go_simp
          try with_reducible rfl
        try simp only [List.getElem_toArray, List.getElem_cons_zero, List.getElem_cons_succ, Act.put, List.setIfInBounds_toArray, List.set_cons_zero, List.set_cons_succ]
        refine wpAnyL_take (i := 11) (v := ?_) rfl (by kernel_rfl) (by kernel_rfl) (by kernel_rfl) (by kernel_rfl) (fun _ _ _ h => h) hS (Or.inl ⟨by rfl, ?_⟩) ?_
        rotate_left 1
        · intro w9 k0
          obtain ⟨s0, s1, s2, s3, s4, s5, s6, s7, s8⟩ := k0
          go_simp
          try with_reducible rfl
        try simp only [List.getElem_toArray, List.getElem_cons_zero, List.getElem_cons_succ, Act.put, List.setIfInBounds_toArray, List.set_cons_zero, List.set_cons_succ]
        refine wpAnyL_take (i := 12) (v := ?_) rfl (by kernel_rfl) (by kernel_rfl) (by kernel_rfl) (by kernel_rfl) (fun _ _ _ h => h) hS (Or.inl ⟨by rfl, ?_⟩) ?_
        rotate_left 1
        · intro w9 k0
          obtain ⟨s0, s1, s2, s3, s4, s5, s6, s7, s8⟩ := k0
          go_simp
          try with_reducible rfl
        try simp only [List.getElem_toArray, List.getElem_cons_zero, List.getElem_cons_succ, Act.put, List.setIfInBounds_toArray, List.set_cons_zero, List.set_cons_succ]
        refine wpAnyL_take (i := 13) (v := ?_) rfl (by kernel_rfl) (by kernel_rfl) (by kernel_rfl) (by kernel_rfl) (fun _ _ _ h => h) hS (Or.inl ⟨by rfl, ?_⟩) ?_
        rotate_left 1
        · intro w9 k0
          obtain ⟨s0, s1, s2, s3, s4, s5, s6, s7, s8⟩ := k0
          go_simp
          try with_reducible rfl
        try simp only [List.getElem_toArray, List.getElem_cons_zero, List.getElem_cons_succ, Act.put, List.setIfInBounds_toArray, List.set_cons_zero, List.set_cons_succ]
        refine wpAnyL_take (i := 14) (v := ?_) rfl (by kernel_rfl) (by kernel_rfl) (by kernel_rfl) (by kernel_rfl) (fun _ _ _ h => h) hS (Or.inl ⟨by rfl, ?_⟩) ?_
        rotate_left 1
        · intro w9 k0
          obtain ⟨s0, s1, s2, s3, s4, s5, s6, s7, s8⟩ := k0
          go_simp
          try with_reducible rfl
        try simp only [List.getElem_toArray, List.getElem_cons_zero, List.getElem_cons_succ, Act.put, List.setIfInBounds_toArray, List.set_cons_zero, List.set_cons_succ]
        clear hS
        obtain ⟨u0, u1, u2, u3, u4, u5, u6, fu, lu⟩ := HRC.out
        simp only at u0 u1 u2 u3 u4 u5 u6
        have f0 := fu (k * 7)
        have f1 := fu (k * 7 + 1)
        have f2 := fu (k * 7 + 2)
        have f3 := fu (k * 7 + 3)
        have f4 := fu (k * 7 + 4)
        have f5 := fu (k * 7 + 5)
        have f6 := fu (k * 7 + 6)
        clear fu
        refine wpAnyL_one (i := 15) (by kernel_rfl) rfl (fun K hK => ?_)
        go_simp
        refine hK.out _ _ (fun h => absurd rfl h) (fun hS' => ?_)
        refine wpAnyL_done (by kernel_rfl) ?_ _
        clear hK K hS' u0 u1 u2 u3 u4 u5 u6 f0 f1 f2 f3 f4 f5 f6
        go_upto_region 6 with (fail)
        go_name_world V hV
        have hq7 := PuOwn.setRe7 HQZ.out HE2.out hlt ⟨y0, y1, y2, y3, y4, y5, y6⟩
        rw [HS2.out] at hq7
        have HQV := Lib.hid (by rw [← hV]; exact ⟨hq7.hp.drew, hq7.hl.drew, hq7.ne⟩ : PuOwn w1.heap.size A3 nr k3 (some ⟨gb, 0, none⟩) nd k4 rods (rtK res bn (k + 1)) V)
        clear hq7
        have ho7 := PuOwn.far (p := ⟨gb, k * 7 + 6, none⟩) (PuOwn.far (p := ⟨gb, k * 7 + 5, none⟩) (PuOwn.far (p := ⟨gb, k * 7 + 4, none⟩) (PuOwn.far (p := ⟨gb, k * 7 + 3, none⟩) (PuOwn.far (p := ⟨gb, k * 7 + 2, none⟩) (PuOwn.far (p := ⟨gb, k * 7 + 1, none⟩) (PuOwn.far (p := ⟨gb, k * 7, none⟩) HOZ.out (.int .i64 y0) hob.out) (.int .i64 y1) hob.out) (.int .i64 y2) hob.out) (.int .i64 y3) hob.out) (.int .i64 y4) hob.out) (.int .i64 y5) hob.out) (.int .i64 y6) hob.out
        have HOV := Lib.hid (by rw [← hV]; exact ⟨ho7.hp.drew, ho7.hl.drew, ho7.ne⟩ : PuOwn w1.heap.size A1 nr k1 (some ⟨ga, 0, none⟩) nd k2 rods (mtK tuE res (k + 1)) V)
        clear ho7
        have h47 := ((((((H4Z.out.far (p := ⟨gb, k * 7, none⟩) nb4 (.int .i64 y0)).far (p := ⟨gb, k * 7 + 1, none⟩) nb4 (.int .i64 y1)).far (p := ⟨gb, k * 7 + 2, none⟩) nb4 (.int .i64 y2)).far (p := ⟨gb, k * 7 + 3, none⟩) nb4 (.int .i64 y3)).far (p := ⟨gb, k * 7 + 4, none⟩) nb4 (.int .i64 y4)).far (p := ⟨gb, k * 7 + 5, none⟩) nb4 (.int .i64 y5)).far (p := ⟨gb, k * 7 + 6, none⟩) nb4 (.int .i64 y6)
        have H4V := Lib.hid (by rw [← hV]; exact h47.drew : Blk V g4 27 #[Value.int .i64 ir, .int .i64 glo, .int .i64 ghi, .slice A1 nr k1, .slice (some ⟨ga, 0, none⟩) nd k2, .int .i64 wrg])
        clear h47
        have h57 := ((((((H5Z.out.far (p := ⟨gb, k * 7, none⟩) nb5 (.int .i64 y0)).far (p := ⟨gb, k * 7 + 1, none⟩) nb5 (.int .i64 y1)).far (p := ⟨gb, k * 7 + 2, none⟩) nb5 (.int .i64 y2)).far (p := ⟨gb, k * 7 + 3, none⟩) nb5 (.int .i64 y3)).far (p := ⟨gb, k * 7 + 4, none⟩) nb5 (.int .i64 y4)).far (p := ⟨gb, k * 7 + 5, none⟩) nb5 (.int .i64 y5)).far (p := ⟨gb, k * 7 + 6, none⟩) nb5 (.int .i64 y6)
        have H5V := Lib.hid (by rw [← hV]; exact h57.drew : Blk V g5 27 #[Value.int .i64 ir, .int .i64 glo, .int .i64 ghi, .slice A3 nr k3, .slice (some ⟨gb, 0, none⟩) nd k4, .int .i64 wrg])
        clear h57
        have b7 := ((((((bZ.setCell (p := ⟨gb, k * 7, none⟩) hgb0 (.int .i64 y0)).setCell (p := ⟨gb, k * 7 + 1, none⟩) hgb0 (.int .i64 y1)).setCell (p := ⟨gb, k * 7 + 2, none⟩) hgb0 (.int .i64 y2)).setCell (p := ⟨gb, k * 7 + 3, none⟩) hgb0 (.int .i64 y3)).setCell (p := ⟨gb, k * 7 + 4, none⟩) hgb0 (.int .i64 y4)).setCell (p := ⟨gb, k * 7 + 5, none⟩) hgb0 (.int .i64 y5)).setCell (p := ⟨gb, k * 7 + 6, none⟩) hgb0 (.int .i64 y6)
        have bV : Below w1.heap.size w1 V := by rw [← hV]; exact Below.drew b7
        clear b7
        clear hV k5Z l5Z kPZ lPZ
        go_wp2_with fail
        go_roundw
        case rel => exact ⟨k + 1, by omega, by go_num, HOV, HQV, H4V, H5V, bV⟩
        case measure => simp [intOf]; omega
      · obtain rfl : nd = k := by omega
        have hqB : decide (((nd : Nat) : Int) < nd) = false := decide_eq_false (by omega)
        have hfull : mtK tuE res nd = res.map tuE := by rw [← HDL.out]; exact mtK_full _ _
        rw [hfull] at HO
        clear hfull
        obtain ⟨Z, hZ⟩ : ∃ Z : World, Z = wr := ⟨_, rfl⟩
        rw [← hZ] at HO HQ H4 H5 hb HP kP lP ⊢
        clear hZ wr
        have MO := Lib.hid (HMO.out _ A1 k1 A2 k2 Z HO.out)
        have MQ := Lib.hid (HMQ.out _ A3 k3 A4 k4 Z HQ.out)
        have BZ := Bw1.trans (hb.mono z01)
        have HB0 := Lib.hid (fun V (h : Below Z.heap.size Z V) => HP.out.below h lP)
        have HB4 := Lib.hid (fun V (h : Below Z.heap.size Z V) => H4.out.below h H4.out.lt)
        have HB5 := Lib.hid (fun V (h : Below Z.heap.size Z V) => H5.out.below h H5.out.lt)
        have KNP := Lib.hid (fun V (h : Below Z.heap.size Z V) => HNP.out V (BZ.trans (h.mono BZ.size)))
        have KNO := Lib.hid (fun V (h : Below Z.heap.size Z V) => HNO.out A1 k1 A2 k2 V (MO.out.later h))
        have KFP := Lib.hid (fun V (h : Below Z.heap.size Z V) => HFP.out V (BZ.trans (h.mono BZ.size)))
        have KFO := Lib.hid (fun V (h : Below Z.heap.size Z V) => HFO.out A1 k1 A2 k2 V (MO.out.later h))
        have KLP := Lib.hid (fun V (h : Below Z.heap.size Z V) => HLP.out V (BZ.trans (h.mono BZ.size)))
        have KLO := Lib.hid (fun V (h : Below Z.heap.size Z V) => HLO.out A1 k1 A2 k2 V (MO.out.later h))
        have KOP := Lib.hid (fun V (h : Below Z.heap.size Z V) => HOP.out V (BZ.trans (h.mono BZ.size)))
        have KOO := Lib.hid (fun V (h : Below Z.heap.size Z V) => HOO.out A1 k1 A2 k2 V (MO.out.later h))
        have KTP := Lib.hid (fun V (h : Below Z.heap.size Z V) => HTP.out V (BZ.trans (h.mono BZ.size)))
        have KTO := Lib.hid (fun V (h : Below Z.heap.size Z V) => HTO.out A1 k1 A2 k2 V (MO.out.later h))
        have KAL := Lib.hid (fun V (h : Below Z.heap.size Z V) => HAL.out A3 k3 A4 k4 V (BZ.trans (h.mono BZ.size)) (MQ.out.later h))
        have v0 : Below Z.heap.size Z Z := Below.refl _ _
        have a0 := (HB0.out Z v0).cell
        have b0 := (HB0.out Z v0).lt
        clear kP lP HO HQ H4 H5 HP HNP HNO HFP HFO HLP HLO HOP HOO HTP HTO HAL HMO HMQ HO0 HQ0 H40 H50 O14 O24 O12 ne45 bW HRE HDL HRL HPw1 Bw1 MO MQ
        go_upto_region 10 with (go_at_call 22; refine (KNP.out Z v0).mono ?_; (rintro e V1 ⟨rfl, hb9⟩); (have v1 := v0.trans (hb9.mono v0.size)); clear hb9)
        clear a0 b0
        have a1 := (HB4.out V1 v1).cell
        have b1 := (HB4.out V1 v1).lt
        go_upto_region 11 with (go_at_call 22; refine (KNO.out V1 v1).mono ?_; (rintro e V2 ⟨rfl, hb9⟩); (have v2 := v1.trans (hb9.mono v1.size)); clear hb9)
        clear a1 b1
        have a2 := (HB0.out V2 v2).cell
        have b2 := (HB0.out V2 v2).lt
        go_upto_region 12 with (go_at_call 23; refine (KFP.out V2 v2).mono ?_; (rintro e V3 ⟨rfl, hb9⟩); (have v3 := v2.trans (hb9.mono v2.size)); clear hb9)
        clear a2 b2
        have a3 := (HB4.out V3 v3).cell
        have b3 := (HB4.out V3 v3).lt
        go_upto_region 13 with (go_at_call 23; refine (KFO.out V3 v3).mono ?_; (rintro e V4 ⟨rfl, hb9⟩); (have v4 := v3.trans (hb9.mono v3.size)); clear hb9)
        clear a3 b3
        have a4 := (HB0.out V4 v4).cell
        have b4 := (HB0.out V4 v4).lt
        have c4 := (HB5.out V4 v4).cell
        have d4 := (HB5.out V4 v4).lt
        go_upto_region 15 with (go_at_call 19; refine (KAL.out V4 v4).mono ?_; (rintro e V5 ⟨rfl, hb9⟩); (have v5 := v4.trans (hb9.mono v4.size)); clear hb9)
        clear a4 b4 c4 d4
        have a5 := (HB0.out V5 v5).cell
        have b5 := (HB0.out V5 v5).lt
        go_upto_region 16 with (go_at_call 24; refine (KLP.out V5 v5).mono ?_; (rintro e V6 ⟨L3, c3, rfl, HI3, hb9⟩); (have v6 := v5.trans (hb9.mono v5.size)); (replace HI3 := Lib.hid HI3); clear hb9)
        clear a5 b5
        have a6 := (HB4.out V6 v6).cell
        have b6 := (HB4.out V6 v6).lt
        go_upto_region 17 with (go_at_call 24; refine (KLO.out V6 v6).mono ?_; (rintro e V7 ⟨L4, c4, rfl, HI4, hb9⟩); (have v7 := v6.trans (hb9.mono v6.size)); (replace HI4 := Lib.hid HI4); (replace HI3 := Lib.hid (HI3.out.later hb9)); clear hb9)
        clear a6 b6
        have a7 := (HB0.out V7 v7).cell
        have b7 := (HB0.out V7 v7).lt
        go_upto_region 18 with (go_at_call 25; refine (KOP.out V7 v7).mono ?_; (rintro e V8 ⟨L5, c5, rfl, HI5, hb9⟩); (have v8 := v7.trans (hb9.mono v7.size)); (replace HI5 := Lib.hid HI5); (replace HI3 := Lib.hid (HI3.out.later hb9)); (replace HI4 := Lib.hid (HI4.out.later hb9)); clear hb9)
        clear a7 b7
        have a8 := (HB4.out V8 v8).cell
        have b8 := (HB4.out V8 v8).lt
        go_upto_region 19 with (go_at_call 25; refine (KOO.out V8 v8).mono ?_; (rintro e V9 ⟨L6, c6, rfl, HI6, hb9⟩); (have v9 := v8.trans (hb9.mono v8.size)); (replace HI6 := Lib.hid HI6); (replace HI3 := Lib.hid (HI3.out.later hb9)); (replace HI4 := Lib.hid (HI4.out.later hb9)); (replace HI5 := Lib.hid (HI5.out.later hb9)); clear hb9)
        clear a8 b8
        have KS1 := Lib.hid (HSU.out L3 c3 L4 c4 V9 HI3.out HI4.out)
        have KS2 := Lib.hid (fun V (h : Below V9.heap.size V9 V) => HSR.out L5 c5 L6 c6 V (HI5.out.later h) (HI6.out.later h))
        clear HI3 HI4 HI5 HI6
        go_upto_region 21 with (go_at_call 26; first | ((with_reducible refine KS1.out.mono ?_); (rintro e V10 ⟨rfl, hb9⟩); (have v10 := v9.trans (hb9.mono v9.size)); (have KS3 := Lib.hid (KS2.out V10 hb9)); clear hb9) | ((with_reducible refine KS3.out.mono ?_); (rintro e V11 ⟨rfl, hb9⟩); (have v11 := v10.trans (hb9.mono v10.size)); clear hb9))
        have a11 := (HB0.out V11 v11).cell
        have b11 := (HB0.out V11 v11).lt
        go_upto_region 22 with (go_at_call 14; refine (KTP.out V11 v11).mono ?_; (rintro e V12 ⟨rfl, hb9⟩); (have v12 := v11.trans (hb9.mono v11.size)); clear hb9)
        clear a11 b11
        go_name_world S hS
        have bS : Below V12.heap.size V12 S := (al1 hS).1
        have vS := v12.trans (bS.mono v12.size)
        have HSA : Hid (Blk S V12.heap.size 23 #[.int .i64 lo, .int .i64 hi]) := by rw [← hS]; exact Lib.hid (Blk.new _ _ _)
        clear hS bS
        have aS := (HB4.out S vS).cell
        have lS := (HB4.out S vS).lt
        go_upto_region 23 with (go_at_call 14; refine (KTO.out S vS).mono ?_; (rintro e V13 ⟨rfl, hb9⟩); (have v13 := vS.trans (hb9.mono vS.size)); (have HSC := Lib.hid (HSA.out.below hb9 HSA.out.lt)); clear hb9 aS lS)
        go_name_world T hT
        have bT : Below V13.heap.size V13 T := (al1 hT).1
        have vT := v13.trans (bT.mono v13.size)
        have HSD : Hid (Blk T V12.heap.size 23 #[.int .i64 lo, .int .i64 hi]) := Lib.hid (HSC.out.below bT HSC.out.lt)
        have HSE : Hid (Blk T V13.heap.size 23 #[.int .i64 (-hi), .int .i64 (-lo)]) := by rw [← hT]; exact Lib.hid (Blk.new _ _ _)
        clear hT bT HSA HSC
        have cD := HSD.out.cell
        have lD := HSD.out.lt
        have BT := BZ.trans (vT.mono BZ.size)
        have q1 := N1.out
        have q2 := N2.out
        go_wp2_with (first | (go_at_call 15; refine (HSN.out T).mono ?_; (rintro e V14 ⟨rfl, hb9⟩); (have B14 := BT.trans (hb9.mono BT.size)); (have cF := (HSD.out.below hb9 HSD.out.lt).cell); (have lF := (HSD.out.below hb9 HSD.out.lt).lt); (have cG := (HSE.out.below hb9 HSE.out.lt).cell); (have lG := (HSE.out.below hb9 HSE.out.lt).lt); clear hb9 cD lD) | (go_at_call 13; refine (works4_c V14).mono ?_; (rintro e V15 ⟨rfl, hb9⟩); (have B15 := B14.trans (hb9.mono B14.size)); clear hb9 cF lF cG lG))
        go_ret
        exact ⟨ret_bool (by first | rfl | simp), B15⟩

end Go.Proofs.Ytjlibgledkdfiaa
