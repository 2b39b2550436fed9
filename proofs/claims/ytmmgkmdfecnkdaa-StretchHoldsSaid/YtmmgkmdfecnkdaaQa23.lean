/- Stretch of stretch (layer 4): the least and the greatest stretch of a pull; Fewest of stretch (layer 4): the least number of readings that are not right. -/
import Derived.Test.YtmmgkmdfecnkdaaQa22
import Derived.Test.YtmmgkmdfecnkdaaQa19
import Derived.Test.YtmmgkmdfecnkdaaQa04
import Derived.BigRegionIn
import Derived.Shelf.RegionOpen
namespace Go.Proofs.Ytmmgkmdfecnkdaa
open Go.RowKit
open Go.Sort (grow)
set_option linter.unusedVariables false
set_option linter.unusedSimpArgs false

/-- what Stretch returns -/
def st4 (p : P4) : Sp := en4 (ol4 p true) (ol4 p true).length
theorem ol4_ok {p : P4} {is : Bool} (hr : p.rods.length ≤ 40) (hd : p.res.length ≤ 40) : ∀ x ∈ ol4 p is, OkB x := by
  intro x hx
  unfold ol4 at hx
  cases h : ck4 p
  · rw [h] at hx; simp at hx
  cases is
  · simp at hx
  rw [h] at hx
  simp only [Bool.and_self, cond_true] at hx
  exact tr4_ok (ok4_of h rfl rfl) hx
theorem ol4_len {p : P4} {is : Bool} (hn : ck4 p = true → (tr4 p).length ≤ 90000) : (ol4 p is).length ≤ 90000 := by
  unfold ol4
  cases h : ck4 p <;> cases is <;> first | exact hn h | exact Nat.zero_le _
set_option maxRecDepth 100000 in
set_option maxHeartbeats 3200000 in
theorem stretch4_c (Ar : Option Addr) (nr cr : Nat) (Ad : Option Addr) (nd cd : Nat) (p : P4) (w : World) (hnr : nr ≤ 40) (hnd : nd ≤ 40) (HM : MemP Ar nr Ad nd p w) (hn : ck4 p = true → (tr4 p).length ≤ 90000) :
    Calls Try.prog 22 #[.agg #[.int .i64 p.ir, .int .i64 p.glo, .int .i64 p.ghi, .slice Ar nr cr, .slice Ad nd cd, .int .i64 p.wr]] w fun e w' =>
      e = .returned (.tuple #[.agg #[.int .i64 (st4 p).lo, .int .i64 (st4 p).hi], .int .i64 (op4 p true)]) ∧ Below w.heap.size w w' := by
  have HOP := Lib.hid (fun V (hV : Below w.heap.size w V) => open4_c Ar nr cr Ad nd cd p true V hnr hnd (HM.later hV) hn)
  have hr := HM.hr.1
  have hd := HM.hd.1
  have HK := Lib.hid (ol4_ok (p := p) (is := true) (by omega) (by omega))
  have hl := ol4_len (p := p) (is := true) hn
  unfold st4
  unfold Op4 at HOP
  obtain ⟨z, hz⟩ : ∃ z, op4 p true = z := ⟨_, rfl⟩
  obtain ⟨l, hll⟩ : ∃ l, ol4 p true = l := ⟨_, rfl⟩
  rw [hz, hll] at HOP
  rw [hll] at HK hl
  rw [hz, hll]
  obtain ⟨m, hm⟩ : ∃ m, l.length = m := ⟨_, rfl⟩
  rw [hm] at HOP hl
  rw [hm]
  have HEN := Lib.hid (fun A c hs base V (HB : BsAt4 0 base V A m hs l) => ends4_c A m c 0 base hs l V hl HB HK.out)
  clear HM hr hd hn hz hll hm hl
  obtain ⟨s0, hs0⟩ : ∃ s, (en4 l m).lo = s := ⟨_, rfl⟩
  obtain ⟨s1, hs1⟩ : ∃ s, (en4 l m).hi = s := ⟨_, rfl⟩
  rw [hs0, hs1] at HEN
  rw [hs0, hs1]
  clear hs0 hs1
  obtain ⟨ir, glo, ghi, wrg, rods, res⟩ := p
  simp only at HOP ⊢
  go_enter Try.func22, Try.ntmps22
  go_upto_region 1 with (fail)
  go_name_world X hX
  have BX : Below w.heap.size w X := (al2 hX).1
  have zX := (al2 hX).2
  have q0 := (al2_0 hX).2.1
  have l0 := (al2_0 hX).1
  have HS : Hid (Blk X (w.heap.size + 1) 23 #[.int .i64 0, .int .i64 0]) := by
    rw [← hX]
    have := Blk.new (w.alloc (.cells #[.int .i64 ir, .int .i64 glo, .int .i64 ghi, .slice Ar nr cr, .slice Ad nd cd, .int .i64 wrg] 27)) 23 #[.int .i64 0, .int .i64 0]
    rw [World.size_alloc] at this
    exact this
  have ZX := Lib.hid zX
  clear hX zX
  go_upto_region 2 with (go_at_call 44; refine (HOP.out X BX).mono ?_; (rintro e w1 ⟨A, c, hs, rfl, hBs, hb1⟩); (have z1 := hb1.size); (have HS1 := Lib.hid (HS.out.below hb1 HS.out.lt)); (have B1 := BX.trans (hb1.mono BX.size)); (have HBs := Lib.hid hBs); (have HX1 := Lib.hid hb1); clear hb1 hBs)
  go_name_world Y hY
  have BY : Below w1.heap.size w1 Y := (al1 hY).1
  have zY := BY.size
  have HBY := Lib.hid (HBs.out.later BY)
  have HSY := Lib.hid (HS1.out.below BY HS1.out.lt)
  have B2 := B1.trans (BY.mono B1.size)
  clear hY BY
  go_wp2_with (go_at_call 54; refine (HEN.out A c hs _ Y HBY.out).mono ?_; (rintro e w2 ⟨rfl, hb2⟩); (have z2 := hb2.size); (have HS2 := Lib.hid (HSY.out.below hb2 HSY.out.lt)); (have k0 := HS2.out.cell); (have f0 := HS2.out.frozen); (have l2 := HS2.out.lt); (have B3 := B2.trans (hb2.mono B2.size)); clear hb2)
  have hbF := (HS2.out.set_ 0 (.int .i64 s0)).set_ 1 (.int .i64 s1)
  have d0 := hbF.cell 0
  have d1 := hbF.cell 1
  simp only [List.setIfInBounds_toArray, List.set_cons_zero, List.set_cons_succ] at d0 d1
  exact bodyPost_ret (v := .tuple #[.agg #[.int .i64 s0, .int .i64 s1], .int .i64 z]) (by simp [results, Try.results22, go_sem, d0, d1]) rfl ⟨rfl, by (repeat first | with_reducible assumption | with_reducible exact Below.refl _ _ | (with_reducible refine Below.alloc ?_ ?side _; case side => (first | omega | (with_reducible exact Below.size (by assumption)) | (simp; done) | (simp; omega))) | (with_reducible refine Below.setCell ?_ ?side _; case side => (first | omega | (with_reducible exact Below.size (by assumption)) | (simp; done) | (simp; omega))) | with_reducible refine Below.drew ?_ | with_reducible refine below_drewN ?_ _ | (with_reducible refine below_step (by assumption) ?side ?_; case side => (first | omega | (with_reducible exact Below.size (by assumption)) | (simp; done) | (simp; omega))))⟩

end Go.Proofs.Ytmmgkmdfecnkdaa

namespace Go.Proofs.Ytmmgkmdfecnkdaa
open Go.RowKit
open Go.Sort (grow)
set_option linter.unusedVariables false
set_option linter.unusedSimpArgs false

attribute [local go_sem] Oper.semAt_some
theorem run_min24 {P : Program} {w : World} (ts : Array TypeId) (t : TypeId) (x y : Int) : (Builtin.min_ ts t #[.int .i64 x, .int .i64 y]).run P w = .ok (.int .i64 (min x y)) w := by
  simp [Builtin.min_, Builtin.min2]
  omega
attribute [local go_sem high] run_min24
def fwk4 (n : Nat) (l : List Bu4) (k : Nat) : Nat := (l.take k).foldl (fun m x => min m (x.b.1 + x.a.1)) n
theorem fwk4_succ {n : Nat} {l : List Bu4} {k : Nat} {x : Bu4} (h : l[k]? = some x) : fwk4 n l (k + 1) = min (fwk4 n l k) (x.b.1 + x.a.1) := by
  unfold fwk4
  rw [List.take_add_one, h, List.foldl_append]
  rfl
theorem fwk4_le {n : Nat} {l : List Bu4} : ∀ {k : Nat}, k ≤ l.length → fwk4 n l k ≤ n
  | 0, _ => by unfold fwk4; simp
  | k + 1, h => by
    rw [fwk4_succ (List.getElem?_eq_getElem (by omega))]
    have := fwk4_le (n := n) (l := l) (k := k) (by omega)
    omega
theorem fwk4_mem {n : Nat} {l : List Bu4} {j : Nat} {x : Bu4} (h : l[j]? = some x) : ∀ {k : Nat}, j < k → k ≤ l.length → fwk4 n l k ≤ x.b.1 + x.a.1
  | 0, hj, _ => absurd hj (by omega)
  | k + 1, hj, hk => by
    by_cases e : j = k
    · subst e
      rw [fwk4_succ h]
      omega
    · rw [fwk4_succ (List.getElem?_eq_getElem (by omega))]
      have := fwk4_mem (n := n) h (k := k) (by omega) (by omega)
      omega
theorem fwk4_hit {n : Nat} {l : List Bu4} : ∀ {k : Nat}, k ≤ l.length → fwk4 n l k = n ∨ ∃ x ∈ l, fwk4 n l k = x.b.1 + x.a.1
  | 0, _ => .inl (by unfold fwk4; simp)
  | k + 1, h => by
    rw [fwk4_succ (List.getElem?_eq_getElem (by omega))]
    rcases Nat.le_total (fwk4 n l k) ((l[k]'(by omega)).b.1 + (l[k]'(by omega)).a.1) with e | e
    · rw [Nat.min_eq_left e]
      exact fwk4_hit (by omega)
    · rw [Nat.min_eq_right e]
      exact .inr ⟨_, List.getElem_mem _, rfl⟩
/-- what Fewest returns -/
def few4 (p : P4) : Int := bif ck4 p then ((fwk4 p.res.length (bs4 p) (bs4 p).length : Nat) : Int) else 0
set_option maxRecDepth 100000 in
set_option maxHeartbeats 3200000 in
theorem fewest4_c (Ar : Option Addr) (nr cr : Nat) (Ad : Option Addr) (nd cd : Nat) (p : P4) (w : World) (hnr : nr ≤ 40) (hnd : nd ≤ 40) (HM : MemP Ar nr Ad nd p w) :
    Calls Try.prog 10 #[.agg #[.int .i64 p.ir, .int .i64 p.glo, .int .i64 p.ghi, .slice Ar nr cr, .slice Ad nd cd, .int .i64 p.wr]] w fun e w' => e = .returned (.tuple #[.int .i64 (few4 p), .int .i64 (er4 (ck4 p))]) ∧ Below w.heap.size w w' := by
  have HCK := Lib.hid (fun V (hV : Below w.heap.size w V) => check4_c Ar nr cr Ad nd cd p V hnr hnd (HM.later hV))
  have HMI := Lib.hid HM
  have hr := HM.hr.1
  have hd := HM.hd.1
  cases hck : ck4 p
  · have e1 : few4 p = 0 := by unfold few4; rw [hck]; rfl
    rw [e1]
    rw [hck, show er4 false = 40 from rfl] at HCK
    rw [show er4 false = 40 from rfl]
    clear hr hd HM HMI hck e1
    obtain ⟨ir, glo, ghi, wrg, rods, res⟩ := p
    simp only at HCK ⊢
    go_enter Try.func10, Try.ntmps10
    go_upto_region 1 with (fail)
    go_name_world X hX
    have BX : Below w.heap.size w X := (al1 hX).1
    have q0 := (al1_0 hX).2.1
    have l0 := (al1_0 hX).1
    clear hX
    go_wp2_with (go_at_call 8; refine (HCK.out X BX).mono ?_; (rintro e w1 ⟨rfl, hb1⟩); (have B1 := BX.trans (hb1.mono BX.size)); clear hb1)
    exact bodyPost_ret (v := .tuple #[.int .i64 0, .int .i64 40]) (by simp [results, Try.results10, go_sem]) rfl ⟨rfl, B1⟩
  have ok := ok4_of hck hr hd
  have e1 : few4 p = (fwk4 nd (bs4 p) (bs4 p).length : Nat) := by unfold few4; rw [hck, hd]; rfl
  rw [e1, show er4 true = 0 from rfl]
  rw [hck, show er4 true = 0 from rfl] at HCK
  have HIT := Lib.hid (bundles_c Ar nr cr Ad nd cd p ok)
  have HWR := Lib.hid (fun x (hx : x ∈ bs4 p) => bs4_wr hx)
  have hnd8 := ok.nd8
  obtain ⟨xs, hxs⟩ : ∃ xs, bs4 p = xs := ⟨_, rfl⟩
  rw [hxs] at HIT HWR
  rw [hxs]
  rw [hd] at HWR
  have hp : p.wr = p.wr := rfl
  clear hxs e1 ok hck hr hd HM hnd hnr hp
  refine (callsIn_wide (n := 6)).1 (callsIn_of_wp_marks Try.func10 rfl trivial ?_ rfl)
  simp only [Try.ntmps10, List.size_toArray, List.length_cons, List.length_nil, Nat.reduceAdd, Nat.reduceSub, Array.replicate_succ, Array.replicate_zero, List.push_toArray, List.append_toArray, List.nil_append, List.cons_append]
  gi_wp2_with (refine ⟨trivial, ?_⟩; gi_at_call 8; refine callsIn_wide.2 ((HCK.out _ (by (repeat first | with_reducible assumption | with_reducible exact Below.refl _ _ | (with_reducible refine Below.alloc ?_ ?side _; case side => (first | omega | (with_reducible exact Below.size (by assumption)) | (simp; done) | (simp; omega))) | (with_reducible refine Below.setCell ?_ ?side _; case side => (first | omega | (with_reducible exact Below.size (by assumption)) | (simp; done) | (simp; omega))) | with_reducible refine Below.drew ?_ | with_reducible refine below_drewN ?_ _ | (with_reducible refine below_step (by assumption) ?side ?_; case side => (first | omega | (with_reducible exact Below.size (by assumption)) | (simp; done) | (simp; omega)))))).mono ?_); rintro e W3 ⟨rfl, hb3⟩; obtain ⟨hc3, hf3⟩ := bcell hb3; have zs3 := hb3.size; simp at zs3; have q3 := fun j => (hc3 w.heap.size j (by first | omega | (simp; done) | (simp; omega))).trans ((al1_0 rfl).2.1 j); have hw3 : Below w.heap.size w W3 := (by (repeat first | with_reducible assumption | with_reducible exact Below.refl _ _ | (with_reducible refine Below.alloc ?_ ?side _; case side => (first | omega | (with_reducible exact Below.size (by assumption)) | (simp; done) | (simp; omega))) | (with_reducible refine Below.setCell ?_ ?side _; case side => (first | omega | (with_reducible exact Below.size (by assumption)) | (simp; done) | (simp; omega))) | with_reducible refine Below.drew ?_ | with_reducible refine below_drewN ?_ _ | (with_reducible refine below_step (by assumption) ?side ?_; case side => (first | omega | (with_reducible exact Below.size (by assumption)) | (simp; done) | (simp; omega))))); have l3 : w.heap.size < W3.heap.size := (by omega); clear hc3 hf3 hb3)
  obtain ⟨X, hX⟩ : ∃ X, W3.alloc (.cells #[.int .i64 nd] 3) = X := ⟨_, rfl⟩
  rw [hX]
  have BX : Below W3.heap.size W3 X := (al1 hX).1
  have zX : X.heap.size = W3.heap.size + 1 := (al1 hX).2
  have B1 : Hid (Blk X W3.heap.size 3 #[.int .i64 (fwk4 nd xs 0 : Nat)]) := by rw [← hX]; exact Lib.hid (Blk.new W3 _ _)
  have hwX := hw3.trans (BX.mono hw3.size)
  have z03 := hw3.size
  clear hX q3 BX hw3
  have en := enters_of Try.func40 (by kernel_rfl) rfl
  refine wpIn_rangeO (gf := 40) (fst := #[.agg #[.int .i64 p.ir, .int .i64 p.glo, .int .i64 p.ghi, .slice Ar nr cr, .slice Ad nd cd, .int .i64 p.wr]]) (lb := #[]) rfl en HIT.out (fun K O x args W h => by obtain ⟨hb, e, -⟩ := h; rw [e]; rfl)
    (fun K O k W => (∀ b, O b → K b) ∧ Off (fun b => b = W3.heap.size) X.heap.size X W ∧ Blk W W3.heap.size 3 #[.int .i64 (fwk4 nd xs k : Nat)])
    (fun c W => False) ?hI ?hIt ?hIx ?hmem ?h0 ?hround ?hdone ?hstop
  case hI =>
    rintro K O K' O' k W W' hK ⟨hO, a1, b1⟩ hst
    have hn : ∀ b, O b → X.heap.size + 2 ≤ b := fun b hb => hK b (hO b hb)
    exact ⟨hst.inO, a1.stp hst (fun b hb => by have := hn b hb; omega) (Nat.le_refl _), hst.blk b1 (fun e => by have := hn _ e; omega)⟩
  case hIt =>
    rintro K O k W W' hK hs ⟨hO, a1, b1⟩ ht
    exact ⟨hO, a1.turn ht (Nat.le_refl _) (Nat.le_refl _), ht.blk b1 (by omega)⟩
  case hIx => exact fun c W W' h => h.elim
  case hmem =>
    rintro K O k W ⟨-, a1, -⟩
    exact HMI.out.later (a1.below (m := w.heap.size) (fun b e => by rw [e]; omega) (by omega) hwX)
  case h0 => exact fun W hb h => ⟨fun b h => h, .of_below hb, B1.out.below hb (by omega)⟩
  case hround =>
    rintro K O k x args W1 hK hO hs hx ⟨-, a1, b1⟩ ⟨hb, rfl, hB⟩
    obtain ⟨hw1, hw2⟩ := HWR.out x (List.mem_of_getElem? hx)
    have hbw : (hb.bw = (x.b.1 : Nat) ∧ hb.aw = (x.a.1 : Nat)) := ⟨hB.bw, hB.aw⟩
    have hk := (List.getElem?_eq_some_iff.1 hx).1
    have hcn := fwk4_le (n := nd) (l := xs) (k := k) (by omega)
    have HSC := fwk4_succ (n := nd) hx
    have HWC := Lib.hid (fun V => wrong4_c hb (by omega) V)
    have HSU : hb.bw + hb.aw = ((x.b.1 + x.a.1 : Nat) : Int) := by omega
    obtain ⟨sm, hsm⟩ : ∃ s, hb.bw + hb.aw = s := ⟨_, rfl⟩
    obtain ⟨c, hc⟩ : ∃ c, fwk4 nd xs k = c := ⟨_, rfl⟩
    rw [hsm] at HWC HSU
    rw [hc] at HSC hcn b1
    have HSE : Hid (((fwk4 nd xs (k + 1) : Nat) : Int) = min (c : Int) sm) := Lib.hid (by rw [HSC]; omega)
    have HA := Lib.hid a1
    have HB := Lib.hid b1
    have ZX := Lib.hid zX
    have zl : W3.heap.size < X.heap.size := by omega
    have zl2 : W3.heap.size < W1.heap.size := by omega
    clear hx hB hbw hw1 hw2 hsm hc HSC HSU a1 b1 zX
    obtain ⟨⟨u0, u1, u2, u3⟩, bw, ⟨bA, bn, bc⟩, aw, ⟨aA, an, ac⟩⟩ := hb
    simp only [encB4] at HWC ⊢
    gi_wp2
    have hbb : Below W1.heap.size W1 (W1.alloc (.cells #[.int .i64 u0, .int .i64 u1, .int .i64 u2, .int .i64 u3, .int .i64 bw, .slice bA bn bc, .int .i64 aw, .slice aA an ac] 68)) := by (repeat first | with_reducible assumption | with_reducible exact Below.refl _ _ | (with_reducible refine Below.alloc ?_ ?side _; case side => (first | omega | (with_reducible exact Below.size (by assumption)) | (simp; done) | (simp; omega))) | (with_reducible refine Below.setCell ?_ ?side _; case side => (first | omega | (with_reducible exact Below.size (by assumption)) | (simp; done) | (simp; omega))) | with_reducible refine Below.drew ?_ | with_reducible refine below_drewN ?_ _ | (with_reducible refine below_step (by assumption) ?side ?_; case side => (first | omega | (with_reducible exact Below.size (by assumption)) | (simp; done) | (simp; omega))))
    refine ⟨.of_below hbb (by omega), .of_below hbb, fun W2 ht => ?_⟩
    have q4 : Hid (Blk W2 W1.heap.size 68 #[.int .i64 u0, .int .i64 u1, .int .i64 u2, .int .i64 u3, .int .i64 bw, .slice bA bn bc, .int .i64 aw, .slice aA an ac]) := Lib.hid (ht.blk (Blk.new W1 _ _) (by omega))
    have K2 := Lib.hid (ht.blk (HB.out.below hbb HB.out.lt) (by omega))
    have A2 := Lib.hid ((HA.out.then_below hbb (by omega)).turn ht (Nat.le_refl _) (Nat.le_refl _))
    have z2 : X.heap.size + 1 < W2.heap.size := by have := ht.size; simp at this; omega
    have c2 := K2.out.cell
    have l2 := K2.out.lt
    have c4 := q4.out.cell
    have l4 := q4.out.lt
    clear ht hbb HA HB
    gi_wp2
    have hcq := fun p : Regrown => (bcell (below_regrown W2 p.d p.os)).1
    refine wpIn_region_quiet_then (.inr ⟨_, rfl⟩) (by kernel_rfl) (by simp only [List.dropLast]; rfl) (by rfl) (by kernel_rfl) (by kernel_rfl) ?_
    repeat (go_big_quiet_step ((go_at_call 41; exact Calls.regrown_of (HWC.out _))))
    refine wpQuiet_nil ?_
    intro wq hq
    obtain ⟨pq, hq⟩ := hq
    have hbq : Below W2.heap.size W2 wq := by rw [hq]; exact below_regrown _ _ _
    clear hq hcq pq
    obtain ⟨hcq, hfq⟩ := bcell hbq
    have zq := hbq.size
    have K3 := Lib.hid (K2.out.below hbq l2)
    have c3 := K3.out.cell
    have f3 := K3.out.frozen
    have l3 := K3.out.lt
    clear c2 c4 hcq hfq
    gi_wp2
    refine ⟨(KeepL.of_below hbq z2).trans (KeepL.set (by constructor <;> (show W3.heap.size ≠ _; omega)) _), (KpO.of_below hbq).trans (KpO.set (fun h => by have := hK _ h; simp at this; omega) _), hO, (A2.out.then_below hbq (by have := A2.out.size; omega)).set (.inl rfl) _, ?_⟩
    rw [HSE.out]
    simpa using K3.out.set_ 0 (.int .i64 (min (c : Int) sm))
  case hdone =>
    rintro K O W hK hs ⟨-, a1, b1⟩ hD
    have hw := Lib.hid (a1.below (m := w.heap.size) (fun b e => by rw [e]; omega) (by omega) hwX)
    have c1 := b1.cell
    have l1 := b1.lt
    clear a1 b1
    gi_wp2
    refine leave_turn (v := .tuple #[.int .i64 (fwk4 nd xs xs.length : Nat), .int .i64 0]) hD (fun W' ht => ?_) (fun W' ht => ⟨rfl, ht.below (by omega) (by omega) hw.out⟩)
    simp [results, Try.results10, go_sem]
  case hstop => exact fun c W h => h.elim

end Go.Proofs.Ytmmgkmdfecnkdaa
