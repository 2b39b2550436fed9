/- Strange of scrap (layer 11). -/
import Derived.Test.YtdhlnlmhdacblaaTs39
import Derived.Test.YtdhlnlmhdacblaaTs40
namespace Go.Proofs.Ytdhlnlmhdacblaa
open Go.RowKit
open Go.Sort (grow)
set_option linter.unusedVariables false
set_option linter.unusedSimpArgs false

attribute [local go_sem] Oper.semAt_some

/-- line i cannot carry what is written in the net of the set s -/
def noCan (np nl : Nat) (pl : List Sp) (ls : List Ln) (i s : Nat) : Bool :=
  !canL (2 * nl + np + 1) (withPp (flowL np nl pl ls s.testBit) (2 * i) (lnAt ls i).w.lo (lnAt ls i).w.hi)
def strB (np nl : Nat) (pl : List Sp) (ls : List Ln) (wrg : Int) (i : Nat) : Bool := (truthSets np nl pl ls wrg).all (noCan np nl pl ls i)
theorem int_info_q11 : (Try.prog.info? 3).map (fun i => (i.zero, i.size, i.bytes)) = some (some (.int .i64 0), 1, 8) := by kernel_rfl
theorem intE_q11 : ElemT Try.prog 36 3 1 8 := by
  obtain ⟨i0, hi0, hz0, hz1, hz2⟩ := info_parts int_info_q11
  exact ⟨Try.underlying36, ⟨i0, _, hi0, hz0, hz1, hz2, rfl⟩, by omega, by omega⟩
def strK (np nl : Nat) (pl : List Sp) (ls : List Ln) (wrg : Int) (k : Nat) : List Nat := (List.range k).filter (strB np nl pl ls wrg)
theorem own_cells {w : World} {base : Nat} {e : TypeId} {size : Nat} {v : Value} {n : Nat} {xs : List Value} (h : w.ownsRow base e size v n xs) : ∀ r o, v.ownBlock = some r → w.heap[r]? = some o → o.isCells = true := by
  rintro r o hr ho
  rcases h.2 with ⟨rfl, _⟩ | ⟨g, cap, cur, rfl, hg, hh, _⟩
  · simp [Value.ownBlock] at hr
  · simp [Value.ownBlock] at hr
    subst hr
    rw [hh] at ho; cases ho; rfl
theorem strK_succ {np nl : Nat} {pl : List Sp} {ls : List Ln} {wrg : Int} {k : Nat} (h : strB np nl pl ls wrg k = true) : strK np nl pl ls wrg (k + 1) = strK np nl pl ls wrg k ++ [k] := by simp [strK, List.range_succ, List.filter_append, h]
theorem strK_len {np nl : Nat} {pl : List Sp} {ls : List Ln} {wrg : Int} (k : Nat) : (strK np nl pl ls wrg k).length ≤ k := by
  have := List.length_filter_le (strB np nl pl ls wrg) (List.range k)
  simpa [strK] using this
def strL (np nl : Nat) (pl : List Sp) (ls : List Ln) (wrg : Int) : List Nat := strK np nl pl ls wrg nl

set_option maxRecDepth 100000 in
set_option maxHeartbeats 1600000 in
theorem Strange_c (Ap Al : Option Addr) (np cp nl cl : Nat) (wrg : Int) (pl : List Sp) (ls : List Ln) (w : World) (hp : np ≤ 40) (hl : nl ≤ 40) (HP : SpsAt w Ap np pl) (HL : LnsAt w Al nl ls) :
    Calls Try.prog 23 #[.agg #[.slice Ap np cp, .slice Al nl cl, .int .i64 wrg]] w
      fun e w' => Below w.heap.size w w' ∧ ((askZ np nl pl ls wrg true ≠ 0 ∧ e = .returned (.tuple #[.slice none 0 0, .int .i64 (askZ np nl pl ls wrg true)])) ∨
        (askZ np nl pl ls wrg true = 0 ∧ ∃ A c, e = .returned (.tuple #[.slice A (strL np nl pl ls wrg).length c, .int .i64 0]) ∧ IntsAt w' A (strL np nl pl ls wrg).length ((strL np nl pl ls wrg).map fun k : Nat => (k : Int)))) := by
  have HPI := Lib.hid HP
  have HLI := Lib.hid HL
  clear HP HL
  obtain ⟨z, hz⟩ : ∃ z, askZ np nl pl ls wrg true = z := ⟨_, rfl⟩
  have hzI := Lib.hid hz
  refine (callsIn_wide (n := 6)).1 (callsIn_of_wp_marks Try.func23 rfl trivial ?_ rfl)
  simp only [Try.ntmps23, List.size_toArray, List.length_cons, List.length_nil, Nat.reduceAdd, Nat.reduceSub, Array.replicate_succ, Array.replicate_zero, List.push_toArray, List.append_toArray, List.nil_append, List.cons_append]
  gi_wp2_with fail
  refine wpIn_scope_straight ?_
  gi_wp2_with fail
  refine ⟨trivial, ?_⟩
  gi_at_call 37
  refine callsIn_wide.2 ((ask_c Ap Al np cp nl cl wrg true pl ls _ hp hl (HPI.out.later (by (repeat first | with_reducible assumption | with_reducible exact Below.refl _ _ | refine below_drewN ?_ _ | refine Below.drew ?_ | refine Below.alloc ?_ (by first | omega | (with_reducible exact Below.size (by assumption)) | (simp; done) | (simp; omega)) _ | refine Below.setCell ?_ (by first | omega | (with_reducible exact Below.size (by assumption)) | (simp; done) | (simp; omega)) _ | refine below_step (by assumption) (by first | omega | (with_reducible exact Below.size (by assumption)) | (simp; done) | (simp; omega)) ?_))) (HLI.out.later (by (repeat first | with_reducible assumption | with_reducible exact Below.refl _ _ | refine below_drewN ?_ _ | refine Below.drew ?_ | refine Below.alloc ?_ (by first | omega | (with_reducible exact Below.size (by assumption)) | (simp; done) | (simp; omega)) _ | refine Below.setCell ?_ (by first | omega | (with_reducible exact Below.size (by assumption)) | (simp; done) | (simp; omega)) _ | refine below_step (by assumption) (by first | omega | (with_reducible exact Below.size (by assumption)) | (simp; done) | (simp; omega)) ?_)))).mono ?_)
  (rintro e w1 ⟨rfl, hb1⟩; obtain ⟨hc1, hf1⟩ := bcell hb1; have zs1 := hb1.size; (try simp at zs1); have n1_0 : w.heap.size < w1.heap.size := (by omega))
  rw [hz]
  have d0 := fun i => (hc1 w.heap.size i (by first | omega | (simp; done) | (simp; omega))).trans ((al1_0 rfl).2.1 i)
  have hbw1 : Below w.heap.size w w1 := by (repeat first | with_reducible assumption | with_reducible exact Below.refl _ _ | refine below_drewN ?_ _ | refine Below.drew ?_ | refine Below.alloc ?_ (by first | omega | (with_reducible exact Below.size (by assumption)) | (simp; done) | (simp; omega)) _ | refine Below.setCell ?_ (by first | omega | (with_reducible exact Below.size (by assumption)) | (simp; done) | (simp; omega)) _ | refine below_step (by assumption) (by first | omega | (with_reducible exact Below.size (by assumption)) | (simp; done) | (simp; omega)) ?_)
  have z1 := hbw1.size
  clear hc1 hf1 hb1 hz
  cases h0 : (z == 0)
  · have hne : z ≠ 0 := by simpa using h0
    have hb : (z != 0) = true := by simpa using h0
    gi_wp2
    rw [Exit.noGoto_ret]
    refine leave_marks (B := w.heap.size) (v := .tuple #[.slice none 0 0, .int .i64 z]) [] _ (.nil _) (by simp) (fun W' ht => ?_) (fun W' ht => ⟨ht.below (Nat.le_refl _) (by omega) (by (repeat first | with_reducible assumption | with_reducible exact Below.refl _ _ | refine below_drewN ?_ _ | refine Below.drew ?_ | refine Below.alloc ?_ (by first | omega | (with_reducible exact Below.size (by assumption)) | (simp; done) | (simp; omega)) _ | refine Below.setCell ?_ (by first | omega | (with_reducible exact Below.size (by assumption)) | (simp; done) | (simp; omega)) _ | refine below_step (by assumption) (by first | omega | (with_reducible exact Below.size (by assumption)) | (simp; done) | (simp; omega)) ?_)), .inl ⟨by rw [hzI.out]; exact hne, by rw [hzI.out]⟩⟩)
    simp [results, Try.results23, go_sem]
  obtain rfl : z = 0 := by simpa using h0
  obtain ⟨hck, -, -⟩ := askZ_zero hzI.out
  obtain ⟨hok, hw0, hw8⟩ := okBk_of HPI.out.1 HLI.out.1 hck
  have HK := Lib.hid hok
  have hl8 := hok.hl
  have hp5 := hok.hp
  have hckI := Lib.hid hck
  clear hck hok h0
  gi_wp2_with fail
  refine wpIn_label ?_
  gi_wp2_with fail
  have W_ := Lib.hid (World.ownsRow_nil w1 w1.heap.size 3 1)
  refine wpIn_loop (fun a' wr => ∃ (k : Nat) (Ds : List Nat) (v u6 u7 u8 u18 u19 u20 u21 u22 u23 u24 u25 u26 u27 u28 u29 u30 u31 u32 u33 u34 u35 u36 u37 u38 : Value), k ≤ nl ∧
      a' = { tmps := #[.agg #[.slice Ap np cp, .slice Al nl cl, .int .i64 wrg], .pointer (some ⟨w.heap.size, 0, none⟩), .slice none 0 0, .int .i64 0, .int .i64 0, v, u6, u7, u8, .agg #[.slice Ap np cp, .slice Al nl cl, .int .i64 wrg], .int .i64 0, .int .i64 0, .bool false, undef, .pointer (some ⟨w.heap.size, 1, none⟩), .slice Al nl cl, .int .i64 nl, .int .i64 k, u18, u19, u20, u21, u22, u23, u24, u25, u26, u27, u28, u29, u30, u31, u32, u33, u34, u35, u36, u37, u38], defers := marks Ds } ∧
      Hid (wr.ownsRow w1.heap.size 3 1 v (strK np nl pl ls wrg k).length (((strK np nl pl ls wrg k).map fun j : Nat => (j : Int)).flatMap encI)) ∧ MarksOk Ds wr ∧ (∀ D ∈ Ds, w1.heap.size ≤ D) ∧ Below w1.heap.size w1 wr)
    (fun a' _ => nl - (intOf (a'.tmps.getD 17 undef)).toNat) ?h0 ?round
  case h0 => exact ⟨0, [], _, _, _, _, _, _, _, _, _, _, _, _, _, _, _, _, _, _, _, _, _, _, _, _, _, by omega, rfl, W_, .nil _, by simp, Below.refl _ _⟩
  case round =>
    rintro a' wr ⟨k, Ds, v, u6, u7, u8, u18, u19, u20, u21, u22, u23, u24, u25, u26, u27, u28, u29, u30, u31, u32, u33, u34, u35, u36, u37, u38, hk, rfl, HO, HD, HG, hb⟩
    obtain ⟨hc, hf⟩ := bcell hb
    have zb := hb.size
    have m0 := Nat.lt_of_lt_of_le n1_0 zb
    have HDk := Lib.hid (And.intro HD HG)
    have hbw := hbw1.trans (hb.mono z1)
    clear HD HG
    by_cases hlt : k < nl
    · have hltB : decide ((k : Int) < nl) = true := by simp; omega
      obtain ⟨bl, ol, hAl, hbl, x0, x1, x2, x3, x4, x5⟩ := (HLI.out.later hbw).get hlt
      subst hAl
      gi_wp2_with fail
      refine ⟨trivial, callsIn_wide.2 ((truths_c_q11 _ _ np cp nl cl wrg pl ls _ (by omega) (HPI.out.later (by (repeat first | with_reducible assumption | with_reducible exact Below.refl _ _ | refine below_drewN ?_ _ | refine Below.drew ?_ | refine Below.alloc ?_ (by first | omega | (with_reducible exact Below.size (by assumption)) | (simp; done) | (simp; omega)) _ | refine Below.setCell ?_ (by first | omega | (with_reducible exact Below.size (by assumption)) | (simp; done) | (simp; omega)) _ | refine below_step (by assumption) (by first | omega | (with_reducible exact Below.size (by assumption)) | (simp; done) | (simp; omega)) ?_))) (HLI.out.later (by (repeat first | with_reducible assumption | with_reducible exact Below.refl _ _ | refine below_drewN ?_ _ | refine Below.drew ?_ | refine Below.alloc ?_ (by first | omega | (with_reducible exact Below.size (by assumption)) | (simp; done) | (simp; omega)) _ | refine Below.setCell ?_ (by first | omega | (with_reducible exact Below.size (by assumption)) | (simp; done) | (simp; omega)) _ | refine below_step (by assumption) (by first | omega | (with_reducible exact Below.size (by assumption)) | (simp; done) | (simp; omega)) ?_)))).mono ?_)⟩
      rintro e w2 ⟨b1, b2, rfl, h1, h2, hm, hb2⟩
      have HM := Lib.hid hm
      have zs2 := hb2.size
      simp only [World.size_alloc] at zs2
      have hbq : Below wr.heap.size wr w2 := Below.trans (((Below.refl _ wr).alloc (Nat.le_refl _) _).alloc (by simp) _) (hb2.mono (by simp; omega))
      have s0 := (hb2.cell (p := ⟨wr.heap.size, 0, none⟩) (by first | omega | (simp; done) | (simp; omega))).trans ((al2_0 rfl).2.1 0)
      have s1 := fun i => (hb2.cell (p := ⟨wr.heap.size + 1, i, none⟩) (by first | omega | (simp; done) | (simp; omega))).trans ((al2_1 rfl).2.1 i)
      have hb12 : Below w1.heap.size w1 w2 := hb.trans (hbq.mono zb)
      have z12 := hb12.size
      have hDr : ∀ D ∈ Ds, D < wr.heap.size := HDk.out.1.lt
      have HD2 := Lib.hid (HDk.out.1.below hDr hbq)
      have HO2 := Lib.hid (own_below HO.out hbq)
      clear hm hc hf hDr hb2 h1 h2
      gi_wp2
      have en := enters_of Try.func63 (by kernel_rfl) rfl
      have hDw : ∀ D ∈ Ds, D < w2.heap.size := HD2.out.lt
      refine wpIn_range (gf := 63) (fst := #[]) (lb := #[.pointer (some ⟨b1, 0, none⟩), .pointer (some ⟨b2, 0, none⟩)]) rfl en (nets1_c b1 b2 Ap (some ⟨bl, ol, none⟩) np cp nl cl wrg (min wrg nl) pl ls HK.out) ?hps
        (fun j W => ((truthSets np nl pl ls wrg).take j).all (noCan np nl pl ls k) = true ∧ Below w1.heap.size w1 W ∧ W.cell? ⟨wr.heap.size, 0, none⟩ = some (.int .i64 k) ∧
          W.cell? ⟨wr.heap.size + 1, 2, none⟩ = some (.int .i64 (lnAt ls k).w.lo) ∧ W.cell? ⟨wr.heap.size + 1, 3, none⟩ = some (.int .i64 (lnAt ls k).w.hi) ∧ MarksOk Ds W ∧
          W.ownsRow w1.heap.size 3 1 v (strK np nl pl ls wrg k).length (((strK np nl pl ls wrg k).map fun j : Nat => (j : Int)).flatMap encI) ∧
          NetMem b1 b2 Ap (some ⟨bl, ol, none⟩) np cp nl cl wrg (min wrg nl) pl ls W)
        (fun c W => c = .exit 1 ∧ strB np nl pl ls wrg k = false ∧ Below w1.heap.size w1 W ∧ MarksOk Ds W ∧
          W.ownsRow w1.heap.size 3 1 v (strK np nl pl ls wrg k).length (((strK np nl pl ls wrg k).map fun j : Nat => (j : Int)).flatMap encI)) ?hI ?hIx ?hmem ?hi0 ?hround ?hdone ?hstop
      case hps => rintro x args W ⟨A, c, rfl, -⟩; rfl
      case hI =>
        rintro j W W' ⟨a0, a1, a2, a3, a4, a5, a6, a7⟩ ht
        exact ⟨a0, ht.below z12 a1.size a1, ht.cell a2, ht.cell a3, ht.cell a4, a5.tame hDw ht, ht.own a6, a7.tame ht⟩
      case hIx =>
        rintro c W W' ⟨a0, a1, a2, a5, a6⟩ ht
        exact ⟨a0, a1, ht.below z12 a2.size a2, a5.tame hDw ht, ht.own a6⟩
      case hmem => rintro j W ⟨_, _, _, _, _, _, _, h⟩; exact h
      case hi0 => exact ⟨rfl, hb12, s0, s1 2, s1 3, HD2.out, HO2.out, HM.out⟩
      case hround =>
        rintro l j x args W hl' hx ⟨a0, a1, a2, a3, a4, a5, a6, a7⟩ ⟨A, c, rfl, hpp⟩
        replace hx := Lib.hid hx
        replace hpp := Lib.hid hpp
        gi_wp2
        refine ⟨KeepsFrom.refl _ _, fun W2 ht => ?_⟩
        have t0 := Lib.hid a0
        have t1 := ht.below z12 a1.size a1
        have t2 := ht.cell a2
        have t3 := ht.cell a3
        have t4 := ht.cell a4
        have t5 := Lib.hid (a5.tame hDw ht)
        have t6 := Lib.hid (ht.own a6)
        have t7 := Lib.hid (a7.tame ht)
        have hP := Lib.hid (pps_tame ht hpp.out)
        clear a0 a1 a2 a3 a4 a5 a6 a7 hpp ht
        gi_wp2_with fail
        obtain ⟨y1, y2, y3, y4, y5, y6, y7, y8, y9⟩ := HK.out.ln k
        refine ⟨trivial, callsIn_wide.2 ((with_c A _ c (2 * k) _ _ (flowL np nl pl ls x.testBit) _ (by omega) (by omega) hP.out).mono ?_)⟩
        rintro e w3 ⟨A3, c3, rfl, hp3, hb3⟩
        gi_wp2_with fail
        refine ⟨trivial, callsIn_wide.2 ((can_c A3 _ c3 _ _ (by omega) hp3 (withPp_ok (fun q => (flow_at HK.out q).1) (by rw [flow_len]; omega) (by omega) (by omega) (by omega) (by omega))).mono ?_)⟩
        rintro e w4 ⟨rfl, hb4⟩
        have zt1 := t1.size
        have z3 := hb3.size
        have z4 := hb4.size
        have hb24 : Below W2.heap.size W2 w4 := hb3.trans (hb4.mono z3)
        have k1 : Below w1.heap.size w1 w4 := t1.trans (hb24.mono zt1)
        have q0 : wr.heap.size + 1 < W2.heap.size := by obtain ⟨ob, h, _⟩ := cells_of_cell t3; exact (Array.getElem?_eq_some_iff.1 h).1
        have k2 := (hb24.cell (p := ⟨wr.heap.size, 0, none⟩) (by show wr.heap.size < W2.heap.size; omega)).trans t2
        have k3 := (hb24.cell (p := ⟨wr.heap.size + 1, 2, none⟩) q0).trans t3
        have k4 := (hb24.cell (p := ⟨wr.heap.size + 1, 3, none⟩) q0).trans t4
        have k5 := Lib.hid (t5.out.below t5.out.lt hb24)
        have k6 := Lib.hid (own_below t6.out hb24)
        have k7 := Lib.hid (t7.out.below hb24)
        have kp : KeepsFrom w2.heap.size W2 w4 := keeps_step hb24 (Nat.le_refl _) (.refl _ _)
        have hxx : (truthSets np nl pl ls wrg)[j]? = some x := hx.out
        have htk := Lib.hid (show ((truthSets np nl pl ls wrg).take (j + 1)).all (noCan np nl pl ls k) = noCan np nl pl ls k x by rw [List.take_add_one, hxx, List.all_append, t0.out]; simp)
        have hmem : x ∈ truthSets np nl pl ls wrg := List.mem_of_getElem? hxx
        cases hcan : canL (2 * nl + np + 1) (withPp (flowL np nl pl ls x.testBit) (2 * k) (lnAt ls k).w.lo (lnAt ls k).w.hi)
        · have hno := Lib.hid (show noCan np nl pl ls k x = true by simp [noCan, hcan])
          clear hcan hxx hmem hb3 hb4 hb24 hp3 t0 t1 t2 t3 t4 t5 t6 t7
          gi_wp2
          exact ⟨kp, by rw [htk.out]; exact hno.out, k1, k2, k3, k4, k5.out, k6.out, k7.out⟩
        · have hno := Lib.hid (show strB np nl pl ls wrg k = false by
            rw [strB, List.all_eq_false]; exact ⟨x, hmem, by simp [noCan, hcan]⟩)
          clear hcan hxx hmem hb3 hb4 hb24 hp3 t0 t1 t2 t3 t4 t5 t6 t7
          gi_wp2
          exact ⟨kp, rfl, hno.out, k1, k5.out, k6.out⟩
      case hdone =>
        rintro D W hD ⟨a0, a1, a2, -, -, a5, a6, -⟩ hK
        have hM := Lib.hid (a5.cons hK (fun h => by have := hDw D h; omega))
        have HO3 := Lib.hid a6
        have hs0 : strB np nl pl ls wrg k = true := by
          rw [show (netSets np nl pl ls (min wrg nl)).length = (truthSets np nl pl ls wrg).length from rfl, List.take_length] at a0
          exact a0
        have hs1 := Lib.hid hs0
        have zz := a1.size
        clear a0 a5 a6 hs0
        have hle := strK_len (np := np) (nl := nl) (pl := pl) (ls := ls) (wrg := wrg) k
        gi_step
        gi_step
        refine wpIn_wide.2 ?_
        go_wp2_with (at_builtin; go_must (refine wpList_append_T _ (d := (0 : Int)) rfl (.tmp 33) (.tmp 35) _ rfl w1.heap.size _ 1 8 intE_q11 encI_len encI_one v v.ownBlock (strK np nl pl ls wrg k).length ((strK np nl pl ls wrg k).map fun j : Nat => (j : Int)) rfl rfl ?_ _ 1 _ [(k : Int)] rfl ?_ ?_ ?_ ?_; (exact own_below HO3.out (by (repeat first | with_reducible assumption | with_reducible exact Below.refl _ _ | refine below_drewN ?_ _ | refine Below.drew ?_ | refine Below.alloc ?_ (by first | omega | (with_reducible exact Below.size (by assumption)) | (simp; done) | (simp; omega)) _ | refine Below.setCell ?_ (by first | omega | (with_reducible exact Below.size (by assumption)) | (simp; done) | (simp; omega)) _ | refine below_step (by assumption) (by first | omega | (with_reducible exact Below.size (by assumption)) | (simp; done) | (simp; omega)) ?_))); (exact sl_new encI_len rfl rfl rfl); omega; (simp; omega)))
        intro v' w5 hown5 hg5 hat5
        have hown6 : Hid (w5.ownsRow w1.heap.size 3 1 v' (strK np nl pl ls wrg (k + 1)).length (((strK np nl pl ls wrg (k + 1)).map fun j : Nat => (j : Int)).flatMap encI)) := by
          rw [strK_succ hs1.out, List.length_append, List.map_append, List.flatMap_append]
          have : ([k].map fun j : Nat => (j : Int)).flatMap encI = encI k := by simp
          rw [this]
          exact hown5
        have hbA : Below w1.heap.size w1 (W.alloc (.cells #[.int .i64 k] 3)) := by (repeat first | with_reducible assumption | with_reducible exact Below.refl _ _ | refine below_drewN ?_ _ | refine Below.drew ?_ | refine Below.alloc ?_ (by first | omega | (with_reducible exact Below.size (by assumption)) | (simp; done) | (simp; omega)) _ | refine Below.setCell ?_ (by first | omega | (with_reducible exact Below.size (by assumption)) | (simp; done) | (simp; omega)) _ | refine below_step (by assumption) (by first | omega | (with_reducible exact Below.size (by assumption)) | (simp; done) | (simp; omega)) ?_)
        have hb5 : Below w1.heap.size w1 w5 := Below.grown hbA hg5 (by simp; omega) (own_ge HO3.out)
        have hk5 : KeepsFrom w1.heap.size W w5 := keeps_grown hg5 (own_cells (own_below HO3.out (by (repeat first | with_reducible assumption | with_reducible exact Below.refl _ _ | refine below_drewN ?_ _ | refine Below.drew ?_ | refine Below.alloc ?_ (by first | omega | (with_reducible exact Below.size (by assumption)) | (simp; done) | (simp; omega)) _ | refine Below.setCell ?_ (by first | omega | (with_reducible exact Below.size (by assumption)) | (simp; done) | (simp; omega)) _ | refine below_step (by assumption) (by first | omega | (with_reducible exact Below.size (by assumption)) | (simp; done) | (simp; omega)) ?_)))) (keeps_alloc (.refl _ _) _)
        have hM5 : Hid (MarksOk (D :: Ds) w5) := hM.out.keeps (B := w1.heap.size) (fun E hE' => by
          rcases List.mem_cons.1 hE' with rfl | h
          · omega
          · exact HDk.out.2 E h) hk5
        clear hown5 hg5 hat5 hk5 hM hbA
        go_wp2_with fail
        gi_wp2
        rw [show ((k : Int) + 1) = ((k + 1 : Nat) : Int) from rfl]
        refine ⟨⟨k + 1, D :: Ds, v', _, _, _, _, _, _, _, _, _, _, _, _, _, _, _, _, _, _, _, _, _, _, _, _, (by omega : k + 1 ≤ nl), rfl, hown6, hM5.out, ?_, hb5⟩, by simp [intOf]; omega⟩
        intro E hE'
        rcases List.mem_cons.1 hE' with rfl | h
        · omega
        · exact HDk.out.2 E h
      case hstop =>
        rintro D c W hD ⟨rfl, a1, a2, a5, a6⟩ hK
        have hM := Lib.hid (a5.cons hK (fun h => by have := hDw D h; omega))
        have e3 : strK np nl pl ls wrg (k + 1) = strK np nl pl ls wrg k := by simp [strK, List.range_succ, List.filter_append, a1]
        have HO3 := Lib.hid a6
        rw [← e3] at HO3
        clear a1 a5 a6
        gi_wp2
        rw [show ((k : Int) + 1) = ((k + 1 : Nat) : Int) from rfl]
        refine ⟨⟨k + 1, D :: Ds, v, _, _, _, _, _, _, _, _, _, _, _, _, _, _, _, _, _, _, _, _, _, _, _, _, (by omega : k + 1 ≤ nl), rfl, HO3, hM.out, ?_, a2⟩, by simp [intOf]; omega⟩
        intro E hE'
        rcases List.mem_cons.1 hE' with rfl | h
        · omega
        · exact HDk.out.2 E h
    · obtain rfl : k = nl := by omega
      have hltB : decide (((k : Nat) : Int) < k) = false := by simp
      obtain ⟨A, c, rfl, -, hsl⟩ := SlAt.of_own (d := (0 : Int)) encI_len HO.out (by simp)
      have hsI := Lib.hid (ints_iff.2 hsl)
      clear hsl
      gi_wp2
      try rw [Exit.noGoto_ret]
      refine leave_marks (B := w1.heap.size) (v := .tuple #[.slice A (strK np k pl ls wrg k).length c, .int .i64 0]) Ds _ (HDk.out.1.keeps (B := w1.heap.size) HDk.out.2 (by (repeat first | with_reducible assumption | with_reducible exact KeepsFrom.refl _ _ | refine keeps_drewN ?_ _ | refine keeps_drew ?_ | refine keeps_alloc ?_ _ | refine keeps_setCell ?_ _ _ | refine keeps_step (by assumption) (Nat.le_refl _) ?_))) HDk.out.2 (fun W' ht => ?_) (fun W' ht => ⟨ht.below z1 (by omega) (by (repeat first | with_reducible assumption | with_reducible exact Below.refl _ _ | refine below_drewN ?_ _ | refine Below.drew ?_ | refine Below.alloc ?_ (by first | omega | (with_reducible exact Below.size (by assumption)) | (simp; done) | (simp; omega)) _ | refine Below.setCell ?_ (by first | omega | (with_reducible exact Below.size (by assumption)) | (simp; done) | (simp; omega)) _ | refine below_step (by assumption) (by first | omega | (with_reducible exact Below.size (by assumption)) | (simp; done) | (simp; omega)) ?_)), .inr ⟨hzI.out, A, c, rfl, ht.ints hsI.out⟩⟩)
      simp [results, Try.results23, go_sem]

end Go.Proofs.Ytdhlnlmhdacblaa
