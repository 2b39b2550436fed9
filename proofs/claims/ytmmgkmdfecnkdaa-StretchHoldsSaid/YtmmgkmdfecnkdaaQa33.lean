/- Strange of stretch (layer 4): the readings that are right in no truth. -/
import Derived.Test.YtmmgkmdfecnkdaaQa28
import Derived.Deep.DrawnRows
import Derived.Deep.DeepCutAuto
import Derived.Handy
import Derived.WalkMore
namespace Go.Proofs.Ytmmgkmdfecnkdaa
open Go.RowKit
open Go.Sort (grow)
set_option linter.unusedVariables false
set_option linter.unusedSimpArgs false

/-- a bundle in some truth of which reading x is right -/
def sgB4 (p : P4) (x : Re4) (t : Bu4) : Bool := (sd4 x.wh t).any fun n => rt4 p.ir (roAt p.rods x.rd.toNat).gr x n (t.u.at_ x.rd.toNat)
def sgA4 (p : P4) (l : List Bu4) (k : Nat) : Bool := l.any (sgB4 p (reAt p.res k))
def sgL4 (f : Nat → Bool) (k : Nat) : List Int := ((List.range k).filter fun i => !f i).map fun (i : Nat) => (i : Int)
theorem sgL4_len (f : Nat → Bool) (k : Nat) : (sgL4 f k).length ≤ k := by
  unfold sgL4
  rw [List.length_map]
  exact Nat.le_trans (List.length_filter_le _ _) (by simp)
theorem sgL4_yes {f : Nat → Bool} {k : Nat} (h : f k = true) : sgL4 f (k + 1) = sgL4 f k := by
  unfold sgL4
  rw [List.range_succ, List.filter_append, List.map_append]; simp [h]
theorem sgL4_no {f : Nat → Bool} {k : Nat} (h : f k = false) : sgL4 f (k + 1) = sgL4 f k ++ [(k : Int)] := by
  unfold sgL4
  rw [List.range_succ, List.filter_append, List.map_append]; simp [h]
/-- what Strange returns -/
def sgs4 (p : P4) : List Int := bif op4 p true == 0 then sgL4 (sgA4 p (tr4 p)) p.res.length else []
theorem okx_of {nr nd : Nat} {p : P4} (ok : Ok4 nr nd p) {k : Nat} (hk : k < nd) : OkX nr (reAt p.res k) := by
  have h := ok.re k hk
  exact ⟨h.2.1, h.2.2.1, h.2.2.2.1, h.2.2.2.2.1, h.2.2.2.2.2⟩
theorem any_nat4 {l : List Int} {f : Int → Bool} : anyN l.length (fun k => f (iAt l k)) = l.any f := by
  rw [Bool.eq_iff_iff, List.any_eq_true]
  constructor
  · intro h
    apply Classical.byContradiction
    intro hn
    rw [anyN_no fun k hk => by
      cases e : f (iAt l k)
      · rfl
      · exact absurd ⟨_, iAt_mem hk, e⟩ hn] at h
    cases h
  · rintro ⟨x, hx, h⟩
    obtain ⟨i, hi, e⟩ := List.getElem_of_mem hx
    refine anyN_yes hi ?_
    show f (iAt l i) = true
    unfold iAt
    rw [List.getD_eq_getElem?_getD, List.getElem?_eq_getElem hi, Option.getD_some, e]
    exact h
set_option maxHeartbeats 400000 in
theorem indexFuncI4_c (A : Option Addr) (n c g : Nat) (fst cap : Array Value) (xs : List Int) (p : Nat → Bool) (w : World) (hn : n ≤ 100000) (HX : IntsAt w A n xs)
    (HE : ∀ args w, (callFunc g args).run Try.prog w = .ok (.enter g args) w)
    (HF : ∀ k, k < n → ∀ w', Below w.heap.size w w' → Calls Try.prog g (fst.push (.int .i64 (iAt xs k)) ++ cap) w' fun e w'' => e = .returned (.bool (p k)) ∧ Below w'.heap.size w' w'') :
    Calls Try.prog 74 #[.slice A n c, .func (.func g) fst cap] w fun e w' => e = .returned (.int .i64 (idxN n p)) ∧ Below w.heap.size w w' := by
  have HFI := Lib.hid HF
  have HXI := Lib.hid HX
  clear HF HX
  go_enter Try.func74, Try.ntmps74
  go_wp2
  go_loopw [8] (fun i (wr : World) => ∃ k : Nat, k ≤ n ∧ i = .int .i64 k ∧ Hid (∀ j, j < k → p j = false) ∧ Below w.heap.size w wr) (fun i _ => n - (intOf i).toNat)
  case atStart => exact ⟨0, by omega, rfl, fun j hj => absurd hj (by omega), Below.refl _ _⟩
  case round =>
    obtain ⟨k, hk, rfl, H1, hb⟩ := hrel
    have zb := hb.size
    by_cases hlt : k < n
    · obtain ⟨bp, op, rfl, hbp, x0⟩ := (HXI.out.later hb).get hlt
      go_wp2_with fail
      refine (HFI.out k hlt _ hb).mono ?_
      (rintro e w1 ⟨rfl, hb1⟩; obtain ⟨hc1, hf1⟩ := bcell hb1; have zs1 := hb1.size; (try simp at zs1))
      go_wp2
      all_goals first
        | (go_roundw
           case rel => exact ⟨k + 1, by omega, by go_num, fun j hj => by
             rcases Nat.lt_succ_iff_lt_or_eq.1 hj with h | rfl
             · exact H1.out j h
             · rename_i h; simpa using h, by (repeat first | with_reducible assumption | with_reducible exact Below.refl _ _ | refine below_drewN ?_ _ | refine Below.drew ?_ | refine Below.alloc ?_ (by first | omega | (with_reducible exact Below.size (by assumption)) | (simp; done) | (simp; omega)) _ | refine Below.setCell ?_ (by first | omega | (with_reducible exact Below.size (by assumption)) | (simp; done) | (simp; omega)) _ | refine below_step (by assumption) (by first | omega | (with_reducible exact Below.size (by assumption)) | (simp; done) | (simp; omega)) ?_)⟩
           case measure => simp [intOf]; omega)
        | (go_ret
           rename_i h
           exact ⟨ret_int (idxN_some hlt (by simpa using h) H1.out).symm, by (repeat first | with_reducible assumption | with_reducible exact Below.refl _ _ | refine below_drewN ?_ _ | refine Below.drew ?_ | refine Below.alloc ?_ (by first | omega | (with_reducible exact Below.size (by assumption)) | (simp; done) | (simp; omega)) _ | refine Below.setCell ?_ (by first | omega | (with_reducible exact Below.size (by assumption)) | (simp; done) | (simp; omega)) _ | refine below_step (by assumption) (by first | omega | (with_reducible exact Below.size (by assumption)) | (simp; done) | (simp; omega)) ?_)⟩)
    · obtain rfl : n = k := by omega
      go_wp2
      go_ret
      exact ⟨ret_int (idxN_none H1.out).symm, by (repeat first | with_reducible assumption | with_reducible exact Below.refl _ _ | refine below_drewN ?_ _ | refine Below.drew ?_ | refine Below.alloc ?_ (by first | omega | (with_reducible exact Below.size (by assumption)) | (simp; done) | (simp; omega)) _ | refine Below.setCell ?_ (by first | omega | (with_reducible exact Below.size (by assumption)) | (simp; done) | (simp; omega)) _ | refine below_step (by assumption) (by first | omega | (with_reducible exact Below.size (by assumption)) | (simp; done) | (simp; omega)) ?_)⟩
set_option maxHeartbeats 400000 in
theorem containsFuncI4_c (A : Option Addr) (n c g : Nat) (fst cap : Array Value) (xs : List Int) (p : Nat → Bool) (w : World) (hn : n ≤ 100000) (HX : IntsAt w A n xs)
    (HE : ∀ args w, (callFunc g args).run Try.prog w = .ok (.enter g args) w)
    (HF : ∀ k, k < n → ∀ w', Below w.heap.size w w' → Calls Try.prog g (fst.push (.int .i64 (iAt xs k)) ++ cap) w' fun e w'' => e = .returned (.bool (p k)) ∧ Below w'.heap.size w' w'') :
    Calls Try.prog 50 #[.slice A n c, .func (.func g) fst cap] w fun e w' => e = .returned (.bool (anyN n p)) ∧ Below w.heap.size w w' := by
  have HC := Lib.hid (indexFuncI4_c A n c g fst cap xs p w hn HX HE HF)
  clear HF HX
  go_enter Try.func50, Try.ntmps50
  go_wp2_with fail
  refine HC.out.mono ?_
  (rintro e w1 ⟨rfl, hb1⟩; obtain ⟨hc1, hf1⟩ := bcell hb1; have zs1 := hb1.size; (try simp at zs1))
  go_wp2
  go_ret
  exact ⟨ret_bool idxN_ge, by (repeat first | with_reducible assumption | with_reducible exact Below.refl _ _ | refine below_drewN ?_ _ | refine Below.drew ?_ | refine Below.alloc ?_ (by first | omega | (with_reducible exact Below.size (by assumption)) | (simp; done) | (simp; omega)) _ | refine Below.setCell ?_ (by first | omega | (with_reducible exact Below.size (by assumption)) | (simp; done) | (simp; omega)) _ | refine below_step (by assumption) (by first | omega | (with_reducible exact Below.size (by assumption)) | (simp; done) | (simp; omega)) ?_)⟩
set_option maxRecDepth 100000 in
set_option maxHeartbeats 800000 in
theorem strange14_c (gp gx gt : Nat) (Ar : Option Addr) (nr cr : Nat) (Ad : Option Addr) (nd cd : Nat) (ir glo ghi wrg : Int) (rods : List Ro4) (x : Re4) (u : W4) (v4 v5 v6 v7 : Value) (n : Int) (w : World)
    (HR : RosAt w Ar nr rods) (hir : 0 ≤ ir ∧ ir ≤ 50) (hnr : nr ≤ 4) (hgr : 0 ≤ (roAt rods x.rd.toNat).gr ∧ (roAt rods x.rd.toNat).gr ≤ 50) (hx : OkX nr x) (hn : 0 ≤ n ∧ n ≤ 99999) (hu : 0 ≤ u.at_ x.rd.toNat ∧ u.at_ x.rd.toNat ≤ 9999)
    (lp : gp < w.heap.size) (lx : gx < w.heap.size) (lt : gt < w.heap.size)
    (cp : ∀ j, w.cell? ⟨gp, j, none⟩ = #[Value.int .i64 ir, .int .i64 glo, .int .i64 ghi, .slice Ar nr cr, .slice Ad nd cd, .int .i64 wrg][j]?)
    (cx : ∀ j, w.cell? ⟨gx, j, none⟩ = #[Value.int .i64 x.wh, .int .i64 x.rd, .int .i64 x.ct, .int .i64 x.rs, .int .i64 x.of, .int .i64 x.lo, .int .i64 x.hi][j]?)
    (ct : ∀ j, w.cell? ⟨gt, j, none⟩ = #[Value.int .i64 u.w0, .int .i64 u.w1, .int .i64 u.w2, .int .i64 u.w3, v4, v5, v6, v7][j]?) :
    Calls Try.prog 51 #[.int .i64 n, .pointer (some ⟨gp, 0, none⟩), .pointer (some ⟨gx, 0, none⟩), .pointer (some ⟨gt, 0, none⟩)] w fun e w' => e = .returned (.bool (rt4 ir (roAt rods x.rd.toNat).gr x n (u.at_ x.rd.toNat))) ∧ Below w.heap.size w w' := by
  have HRT := Lib.hid (fun Z (hZ : Below w.heap.size w Z) => right4_c Ar nr cr Ad nd cd ir glo ghi wrg rods x n (u.at_ x.rd.toNat) Z (HR.later hZ) hir hgr hx hn hu)
  obtain ⟨R, hR⟩ : ∃ R, rt4 ir (roAt rods x.rd.toNat).gr x n (u.at_ x.rd.toNat) = R := ⟨_, rfl⟩
  rw [hR] at HRT ⊢
  obtain ⟨q, hq⟩ : ∃ q : Nat, x.rd = q := ⟨x.rd.toNat, by have := hx.rd; omega⟩
  have hq4 : q < 4 := by have := hx.rd; omega
  rw [hq, Int.toNat_natCast] at HRT
  have cq : w.cell? ⟨gt, q, none⟩ = some (.int .i64 (u.at_ q)) := (ct q).trans (at_b4 hq4)
  obtain ⟨rod, hrod⟩ : ∃ r, u.at_ q = r := ⟨_, rfl⟩
  rw [hrod] at HRT cq
  obtain ⟨xw, xr, xc, xs, xo, lo, hi⟩ := x
  simp only at hq HRT cx
  subst hq
  clear hR hrod HR hir hgr hx hn hu ct
  go_enter Try.func51, Try.ntmps51
  go_upto_region 1 with (fail)
  have hcq := fun p : Regrown => (bcell (below_regrown w p.d p.os)).1
  refine wp_region_quiet_below (by kernel_rfl) (by kernel_rfl) ?_
  repeat (go_big_quiet_step ((go_at_call 52; exact Calls.regrown_of (HRT.out _ (below_regrown _ _ _)))))
  refine wpQuiet_nil ?_
  intro wq hq
  obtain ⟨pq, hq⟩ := hq
  have hbq : Below w.heap.size w wq := by rw [hq]; exact below_regrown _ _ _
  clear hq hcq pq
  obtain ⟨hcq, hfq⟩ := bcell hbq
  have zq := hbq.size
  go_wp2_with fail
  go_ret
  exact ⟨rfl, hbq⟩
set_option maxRecDepth 100000 in
set_option maxHeartbeats 3200000 in
theorem strange4_c (Ar : Option Addr) (nr cr : Nat) (Ad : Option Addr) (nd cd : Nat) (p : P4) (w : World) (hnr : nr ≤ 40) (hnd : nd ≤ 40) (HM : MemP Ar nr Ad nd p w) (hn : ck4 p = true → (tr4 p).length ≤ 90000) :
    Calls Try.prog 18 #[.agg #[.int .i64 p.ir, .int .i64 p.glo, .int .i64 p.ghi, .slice Ar nr cr, .slice Ad nd cd, .int .i64 p.wr]] w fun e w' =>
      ∃ A c, e = .returned (.tuple #[.slice A (sgs4 p).length c, .int .i64 (op4 p true)]) ∧ IntsAt w' A (sgs4 p).length (sgs4 p) ∧ Below w.heap.size w w' := by
  have HOP := Lib.hid (fun V (hV : Below w.heap.size w V) => open4_c Ar nr cr Ad nd cd p true V hnr hnd (HM.later hV) hn)
  have hr := HM.hr.1
  have hd := HM.hd.1
  have HMI := Lib.hid HM
  by_cases hz0 : op4 p true = 0
  case neg =>
    have hs : sgs4 p = [] := by unfold sgs4; rw [show (op4 p true == 0) = false by simpa using hz0]; rfl
    rw [hs]
    unfold Op4 at HOP
    obtain ⟨z, hz⟩ : ∃ z, op4 p true = z := ⟨_, rfl⟩
    rw [hz] at HOP hz0 ⊢
    have hzb : (z == 0) = false := by simpa using hz0
    have hzn : (z != 0) = true := by simpa using hz0
    obtain ⟨l, hll⟩ : ∃ l, ol4 p true = l := ⟨_, rfl⟩
    rw [hll] at HOP
    clear HM HMI hr hd hn hz hll hs hz0
    obtain ⟨ir, glo, ghi, wrg, rods, res⟩ := p
    simp only at HOP ⊢
    go_enter Try.func18, Try.ntmps18
    go_upto_region 1 with (fail)
    go_name_world X hX
    have BX : Below w.heap.size w X := (al1 hX).1
    have q0 := (al1_0 hX).2.1
    have l0 := (al1_0 hX).1
    clear hX
    refine wp_scope_straight ?_
    go_upto_region 2 with (go_at_call 44; refine (HOP.out X BX).mono ?_; (rintro e w1 ⟨A, c, hs, rfl, hBs, hb1⟩); (have z1 := hb1.size); (have B1 := BX.trans (hb1.mono BX.size)); clear hb1 hBs)
    go_name_world Y hY
    have BY : Below w1.heap.size w1 Y := (al1 hY).1
    have B2 := Lib.hid (B1.trans (BY.mono B1.size))
    clear hY BY
    go_wp2_with fail
    rw [Exit.noGoto_ret]
    exact bodyPost_ret (v := .tuple #[.slice none 0 0, .int .i64 z]) (by simp [results, Try.results18, go_sem]) rfl ⟨none, 0, rfl, nil_ints _, B2.out⟩
  obtain ⟨-, hck, hol, hne⟩ := op4_ol hz0
  replace hn := hn hck
  have ok := ok4_of hck hr hd
  have hs : sgs4 p = sgL4 (sgA4 p (tr4 p)) nd := by unfold sgs4; rw [hz0, hd]; rfl
  have HOK := Lib.hid ok
  have HB4 := Lib.hid (fun x (hx : x ∈ tr4 p) => tr4_ok ok hx)
  have HW4 := Lib.hid (fun x (hx : x ∈ tr4 p) => ol4_okw (p := p) (is := true) x (by rw [hol]; exact hx))
  rw [hs, hz0]
  rw [hz0, hol] at HOP
  unfold Op4 at HOP
  have hnr4 := ok.nr4
  have hnd8 := ok.nd8
  have hir := ok.ir
  have HGR := Lib.hid (fun q (hq : q < nr) => (ok.ro q hq).2.2)
  have HRE := Lib.hid (fun k (hk : k < nd) => (And.intro (okx_of ok hk) (ok.re k hk).1))
  have ENI := Lib.hid (enters_of Try.func51 (by kernel_rfl) rfl)
  obtain ⟨l, hll⟩ : ∃ l, tr4 p = l := ⟨_, rfl⟩
  rw [hll] at HOP HB4 HW4 hn ⊢
  obtain ⟨m, hm⟩ : ∃ m, l.length = m := ⟨_, rfl⟩
  rw [hm] at HOP hn
  have HML := Lib.hid hm
  have HSA : Hid (∀ k, sgA4 p l k = l.any (sgB4 p (reAt p.res k))) := Lib.hid fun k => rfl
  have HSB : Hid (∀ (x : Re4) (t : Bu4), sgB4 p x t = (sd4 x.wh t).any fun n => rt4 p.ir (roAt p.rods x.rd.toNat).gr x n (t.u.at_ x.rd.toNat)) := Lib.hid fun x t => rfl
  obtain ⟨F, hF⟩ : ∃ F, sgA4 p l = F := ⟨_, rfl⟩
  rw [hF] at HSA ⊢
  obtain ⟨G, hG⟩ : ∃ G, sgB4 p = G := ⟨_, rfl⟩
  rw [hG] at HSA HSB
  clear HM hr hd hll hs hz0 hck hol hne hm hF hG ok
  obtain ⟨ir, glo, ghi, wrg, rods, res⟩ := p
  simp only at HOP HMI HSA HSB HGR HRE hir ⊢
  go_enter Try.func18, Try.ntmps18
  go_upto_region 1 with (fail)
  go_name_world X hX
  have BX : Below w.heap.size w X := (al1 hX).1
  have q0 := (al1_0 hX).2.1
  have l0 := (al1_0 hX).1
  clear hX
  refine wp_scope_straight ?_
  go_upto_region 2 with (go_at_call 44; refine (HOP.out X BX).mono ?_; (rintro e w1 ⟨A, c, hs, rfl, hBs, hb1⟩); (have z1 := hb1.size); (have B1 := BX.trans (hb1.mono BX.size)); (have HBs := Lib.hid hBs); (have q1 := fun j => (hb1.cell (p := ⟨w.heap.size, j, none⟩) l0).trans (q0 j)); (have l1 := Nat.lt_of_lt_of_le l0 z1); clear hb1 hBs)
  go_name_world Y hY
  have BY : Below w1.heap.size w1 Y := (al1 hY).1
  have HBY := Lib.hid (HBs.out.later BY)
  have B2 := B1.trans (BY.mono B1.size)
  have qY := fun j => (BY.cell (p := ⟨w.heap.size, j, none⟩) l1).trans (q1 j)
  have lY := Nat.lt_of_lt_of_le l1 BY.size
  have own0 := Lib.hid (World.ownsRow_nil Y Y.heap.size 3 1)
  clear hY BY q0 l0 q1 l1
  go_wp2_with fail
  refine wp_label ?_
  go_wp2_with fail
  go_loopw [7, 25] (fun v i (wr : World) => ∃ k : Nat, k ≤ nd ∧ i = .int .i64 k ∧ Hid (wr.ownsRow Y.heap.size 3 1 v (sgL4 F k).length ((sgL4 F k).flatMap encI)) ∧ Below Y.heap.size Y wr) (fun _ i _ => nd - (intOf i).toNat)
  case atStart => exact ⟨0, by omega, by simp, own0, Below.refl _ _⟩
  case round =>
    obtain ⟨k, hk, rfl, HOr, hb⟩ := hrel
    obtain ⟨wo, rfl⟩ : ∃ wo : World, wo = wr := ⟨_, rfl⟩
    have zb := hb.size
    have hwo := Lib.hid (B2.trans (hb.mono B2.size))
    have hll := sgL4_len F k
    by_cases hlt : k < nd
    · have hqB : decide ((k : Int) < nd) = true := by simp; omega
      have vk : IntKind.i64.wrap ((k : Int) + 1) = (k : Int) + 1 := IntWalk.i64_in _ (by omega)
      obtain ⟨bd, od, hA, hbd, y0, y1, y2, y3, y4, y5, y6⟩ := (HMI.out.hd.later hwo.out).get hlt
      subst hA
      obtain ⟨hOX, hwh⟩ := HRE.out k hlt
      have hFk := HSA.out k
      obtain ⟨x, hx⟩ : ∃ x, reAt res k = x := ⟨_, rfl⟩
      rw [hx] at y0 y1 y2 y3 y4 y5 y6 hOX hwh hFk
      obtain ⟨q, hq⟩ : ∃ q : Nat, x.rd = q := ⟨x.rd.toNat, by have := hOX.rd; omega⟩
      have hqn : q < nr := by have := hOX.rd; omega
      have hq4 : q < 4 := by omega
      have hGq := HGR.out q hqn
      have HSBx := Lib.hid (HSB.out x)
      have HOXX := Lib.hid hOX
      have HFK := Lib.hid hFk
      have HQ := Lib.hid hq
      obtain ⟨xw, xr, xc, xs', xo, lo, hi⟩ := x
      simp only at hq hwh y0 y1 y2 y3 y4 y5 y6
      subst hq
      clear hx hOX hFk
      have qo := fun j => (hb.cell (p := ⟨w.heap.size, j, none⟩) lY).trans (qY j)
      have lo0 : w.heap.size < wo.heap.size := by omega
      go_upto_region 8 with (fail)
      go_name_world V hV
      have BV : Below wo.heap.size wo V := (al1 hV).1
      have zV := BV.size
      have qx := (al1_0 hV).2.1
      have lx := (al1_0 hV).1
      have qv := fun j => (BV.cell (p := ⟨w.heap.size, j, none⟩) lo0).trans (qo j)
      have lv0 : w.heap.size < V.heap.size := by omega
      have HBV0 := Lib.hid BV
      have BYV := Lib.hid (hb.trans (BV.mono zb))
      have HBV := Lib.hid (HBY.out.later BYV.out)
      have hwV := Lib.hid (B2.trans (BYV.out.mono B2.size))
      clear hV BV y0 y1 y2 y3 y4 y5 y6 qo
      go_wp2_with fail
      go_loopw [32] (fun i (wr : World) => ∃ t : Nat, t ≤ m ∧ i = .int .i64 t ∧ Hid (∀ j : Nat, j < t → ∀ y, l[j]? = some y → G ⟨xw, (q : Int), xc, xs', xo, lo, hi⟩ y = false) ∧ Below V.heap.size V wr) (fun i _ => m - (intOf i).toNat)
      case atStart => exact ⟨0, by omega, by simp, Lib.hid (fun j h => absurd h (by omega)), Below.refl _ _⟩
      case round =>
        obtain ⟨t, ht, rfl, HN, hbr⟩ := hrel
        have zr := hbr.size
        by_cases htm : t < m
        · have htB : decide ((t : Int) < m) = true := by simp; omega
          have vt : IntKind.i64.wrap ((t : Int) + 1) = (t : Int) + 1 := IntWalk.i64_in _ (by omega)
          have qr := fun j => (hbr.cell (p := ⟨w.heap.size, j, none⟩) lv0).trans (qv j)
          have qxr := fun j => (hbr.cell (p := ⟨wo.heap.size, j, none⟩) lx).trans (qx j)
          have lr0 : w.heap.size < wr.heap.size := by omega
          have lrx : wo.heap.size < wr.heap.size := by omega
          obtain ⟨b, off, hA, hbl, hc, hR⟩ := (HBV.out.later hbr).get htm
          subst hA
          obtain ⟨y, hy⟩ : ∃ y, bxAt l t = y := ⟨_, rfl⟩
          have hyg : l[t]? = some y := by rw [← hy]; unfold bxAt; rw [List.getD_eq_getElem?_getD, List.getElem?_eq_getElem (by have := HML.out; omega)]; rfl
          have HYG := Lib.hid hyg
          have hxo := HB4.out y (List.mem_of_getElem? hyg)
          have hxw := HW4.out y (List.mem_of_getElem? hyg) q hq4
          rw [hy] at hR
          obtain ⟨h, hh⟩ : ∃ h, hbAt hs t = h := ⟨_, rfl⟩
          rw [hh] at hR hc
          obtain ⟨hru, -, -, rb, ra⟩ := hR
          have c0 := hc 0 _ rfl
          have c1 := hc 1 _ rfl
          have c2 := hc 2 _ rfl
          have c3 := hc 3 _ rfl
          have c4 := hc 4 _ rfl
          have c5 := hc 5 _ rfl
          have c6 := hc 6 _ rfl
          have c7 := hc 7 _ rfl
          rw [Nat.add_zero] at c0
          obtain ⟨⟨u0, u1, u2, u3⟩, bw, ⟨bA, bn, bc⟩, aw, ⟨aA, an, ac⟩⟩ := h
          simp only at c0 c1 c2 c3 c4 c5 c6 c7 rb ra hru
          have hbl' : bn = y.b.2.length := rb.1.1.symm
          have hal' : an = y.a.2.length := ra.1.1.symm
          have hbn := hxo.bl
          have han := hxo.al
          have hbL := Lib.hid hbl'
          have haL := Lib.hid hal'
          have hbn2 : bn ≤ 99999 := by omega
          have han2 : an ≤ 99999 := by omega
          have HXb0 := Lib.hid rb.1
          have HXa0 := Lib.hid ra.1
          have HU := Lib.hid hru
          have HXO := Lib.hid hxo
          clear hc hh hy hyg rb ra hbl' hal' hbn han hru hxo
          go_upto_region 11 with (fail)
          go_name_world Z hZ
          have BZ : Below wr.heap.size wr Z := (al1 hZ).1
          have qz := (al1_0 hZ).2.1
          have lz := (al1_0 hZ).1
          have q0z := fun j => (BZ.cell (p := ⟨w.heap.size, j, none⟩) lr0).trans (qr j)
          have qxz := fun j => (BZ.cell (p := ⟨wo.heap.size, j, none⟩) lrx).trans (qxr j)
          have lz0 : w.heap.size < Z.heap.size := Nat.lt_of_lt_of_le lr0 BZ.size
          have lzx : wo.heap.size < Z.heap.size := Nat.lt_of_lt_of_le lrx BZ.size
          have hwZ := Lib.hid (hwV.out.trans ((hbr.trans (BZ.mono zr)).mono hwV.out.size))
          have HF := Lib.hid (fun (L : List Int) (hL : ∀ n ∈ L, 1 ≤ n ∧ n ≤ 99999) (k : Nat) (hk : k < L.length) (w' : World) (hb' : Below Z.heap.size Z w') => show Calls Try.prog 51 (#[].push (.int .i64 (iAt L k)) ++ #[.pointer (some ⟨w.heap.size, 0, none⟩), .pointer (some ⟨wo.heap.size, 0, none⟩), .pointer (some ⟨wr.heap.size, 0, none⟩)]) w' fun e w'' => e = .returned (.bool (rt4 ir (roAt rods q).gr ⟨xw, (q : Int), xc, xs', xo, lo, hi⟩ (iAt L k) (y.u.at_ q))) ∧ Below w'.heap.size w' w'' from by
            have hn1 := hL _ (iAt_mem hk)
            have := strange14_c w.heap.size wo.heap.size wr.heap.size Ar nr cr (some ⟨bd, od, none⟩) nd cd ir glo ghi wrg rods ⟨xw, (q : Int), xc, xs', xo, lo, hi⟩ ⟨u0, u1, u2, u3⟩ (.int .i64 bw) (.slice bA bn bc) (.int .i64 aw) (.slice aA an ac) (iAt L k) w'
              (HMI.out.hr.later (hwZ.out.trans (hb'.mono hwZ.out.size))) hir hnr4 (by simpa using hGq) HOXX.out (by omega) (by rw [HU.out]; simpa using hxw) (Nat.lt_of_lt_of_le lz0 hb'.size) (Nat.lt_of_lt_of_le lzx hb'.size) (Nat.lt_of_lt_of_le lz hb'.size)
              (fun j => (hb'.cell (p := ⟨w.heap.size, j, none⟩) lz0).trans (q0z j)) (fun j => (hb'.cell (p := ⟨wo.heap.size, j, none⟩) lzx).trans (qxz j)) (fun j => (hb'.cell (p := ⟨wr.heap.size, j, none⟩) lz).trans (qz j))
            rw [HU.out] at this
            simpa using this)
          have HXb := Lib.hid (HXb0.out.later BZ)
          have HXa := Lib.hid (HXa0.out.later BZ)
          have hbl := hbL.out
          have hal := haL.out
          have hxo := HXO.out
          clear hZ c0 c1 c2 c3 c4 c5 c6 c7 qr qxr q0z
          by_cases hw2 : xw = 2
          · subst hw2
            have HC := containsFuncI4_c aA an ac 51 #[] #[.pointer (some ⟨w.heap.size, 0, none⟩), .pointer (some ⟨wo.heap.size, 0, none⟩), .pointer (some ⟨wr.heap.size, 0, none⟩)] y.a.2 (fun k => rt4 ir (roAt rods q).gr ⟨2, (q : Int), xc, xs', xo, lo, hi⟩ (iAt y.a.2 k) (y.u.at_ q)) Z (by omega) HXa.out ENI.out (fun k hk => HF.out y.a.2 hxo.a k (by omega))
            have hres : anyN an (fun k => rt4 ir (roAt rods q).gr ⟨2, (q : Int), xc, xs', xo, lo, hi⟩ (iAt y.a.2 k) (y.u.at_ q)) = G ⟨2, (q : Int), xc, xs', xo, lo, hi⟩ y := by
              rw [hal, any_nat4 (f := fun n => rt4 ir (roAt rods q).gr ⟨2, (q : Int), xc, xs', xo, lo, hi⟩ n (y.u.at_ q)), HSBx.out y]
              rw [show sd4 2 y = y.a.2 from by unfold sd4; rw [if_pos rfl], Int.toNat_natCast]
            rw [hres] at HC
            replace HC := Lib.hid HC
            clear hres hbl hal hxo
            obtain ⟨R, hR⟩ : ∃ R, G ⟨2, (q : Int), xc, xs', xo, lo, hi⟩ y = R := ⟨_, rfl⟩
            rw [hR] at HC
            cases R
            · have HNE : Hid (∀ j : Nat, j < t + 1 → ∀ y, l[j]? = some y → G ⟨2, (q : Int), xc, xs', xo, lo, hi⟩ y = false) := Lib.hid (fun j hj z hz => by
                rcases Nat.lt_succ_iff_lt_or_eq.1 hj with h | rfl
                · exact HN.out j h z hz
                · rw [HYG.out] at hz; cases hz; exact hR)
              clear hR HN
              go_wp2_with (go_at_call 50; refine HC.out.mono ?_; (rintro e w5 ⟨rfl, hb5⟩); (have B5 := hbr.trans ((BZ.trans (hb5.mono BZ.size)).mono zr)); clear hb5)
              go_roundw
              case rel => exact ⟨t + 1, by omega, by go_num, HNE, B5⟩
              case measure => simp [intOf]; omega
            · have HFT := Lib.hid (show F k = true by rw [HFK.out, List.any_eq_true]; exact ⟨y, List.mem_of_getElem? HYG.out, hR⟩)
              have HSY := Lib.hid (sgL4_yes HFT.out)
              clear hR HN
              go_wp2_with (go_at_call 50; refine HC.out.mono ?_; (rintro e w5 ⟨rfl, hb5⟩); (have B5 := Lib.hid (hbr.trans ((BZ.trans (hb5.mono BZ.size)).mono zr))); clear hb5)
              have B6 := Lib.hid (HBV0.out.trans (B5.out.mono HBV0.out.size))
              have B7 := Lib.hid (hb.trans (B6.out.mono zb))
              go_roundw
              case rel => exact ⟨k + 1, by omega, by go_num, by show World.ownsRow _ _ _ _ _ _ _; rw [HSY.out]; exact own_below HOr.out B6.out, B7.out⟩
              case measure => simp [intOf]; omega
          · have hwB : (xw == 2) = false := by simpa using hw2
            have HC := containsFuncI4_c bA bn bc 51 #[] #[.pointer (some ⟨w.heap.size, 0, none⟩), .pointer (some ⟨wo.heap.size, 0, none⟩), .pointer (some ⟨wr.heap.size, 0, none⟩)] y.b.2 (fun k => rt4 ir (roAt rods q).gr ⟨xw, (q : Int), xc, xs', xo, lo, hi⟩ (iAt y.b.2 k) (y.u.at_ q)) Z (by omega) HXb.out ENI.out (fun k hk => HF.out y.b.2 hxo.b k (by omega))
            have hres : anyN bn (fun k => rt4 ir (roAt rods q).gr ⟨xw, (q : Int), xc, xs', xo, lo, hi⟩ (iAt y.b.2 k) (y.u.at_ q)) = G ⟨xw, (q : Int), xc, xs', xo, lo, hi⟩ y := by
              rw [hbl, any_nat4 (f := fun n => rt4 ir (roAt rods q).gr ⟨xw, (q : Int), xc, xs', xo, lo, hi⟩ n (y.u.at_ q)), HSBx.out y]
              rw [show sd4 xw y = y.b.2 from by unfold sd4; rw [if_neg hw2], Int.toNat_natCast]
            rw [hres] at HC
            replace HC := Lib.hid HC
            clear hres hbl hal hxo
            obtain ⟨R, hR⟩ : ∃ R, G ⟨xw, (q : Int), xc, xs', xo, lo, hi⟩ y = R := ⟨_, rfl⟩
            rw [hR] at HC
            cases R
            · have HNE : Hid (∀ j : Nat, j < t + 1 → ∀ y, l[j]? = some y → G ⟨xw, (q : Int), xc, xs', xo, lo, hi⟩ y = false) := Lib.hid (fun j hj z hz => by
                rcases Nat.lt_succ_iff_lt_or_eq.1 hj with h | rfl
                · exact HN.out j h z hz
                · rw [HYG.out] at hz; cases hz; exact hR)
              clear hR HN
              go_wp2_with (go_at_call 50; refine HC.out.mono ?_; (rintro e w5 ⟨rfl, hb5⟩); (have B5 := hbr.trans ((BZ.trans (hb5.mono BZ.size)).mono zr)); clear hb5)
              go_roundw
              case rel => exact ⟨t + 1, by omega, by go_num, HNE, B5⟩
              case measure => simp [intOf]; omega
            · have HFT := Lib.hid (show F k = true by rw [HFK.out, List.any_eq_true]; exact ⟨y, List.mem_of_getElem? HYG.out, hR⟩)
              have HSY := Lib.hid (sgL4_yes HFT.out)
              clear hR HN
              go_wp2_with (go_at_call 50; refine HC.out.mono ?_; (rintro e w5 ⟨rfl, hb5⟩); (have B5 := Lib.hid (hbr.trans ((BZ.trans (hb5.mono BZ.size)).mono zr))); clear hb5)
              have B6 := Lib.hid (HBV0.out.trans (B5.out.mono HBV0.out.size))
              have B7 := Lib.hid (hb.trans (B6.out.mono zb))
              go_roundw
              case rel => exact ⟨k + 1, by omega, by go_num, by show World.ownsRow _ _ _ _ _ _ _; rw [HSY.out]; exact own_below HOr.out B6.out, B7.out⟩
              case measure => simp [intOf]; omega
        · obtain rfl : m = t := by omega
          have htB : decide (((m : Nat) : Int) < m) = false := by simp
          have HFF := Lib.hid (show F k = false by
            rw [HFK.out, List.any_eq_false]
            intro z hz
            obtain ⟨j, hj, e⟩ := List.getElem_of_mem hz
            rw [HN.out j (by have := HML.out; omega) z (by rw [← e]; exact List.getElem?_eq_getElem hj)]
            simp)
          have HSN := Lib.hid (sgL4_no HFF.out)
          have B6 := Lib.hid (HBV0.out.trans (hbr.mono zV))
          have B7 := Lib.hid (hb.trans (B6.out.mono zb))
          have HO6 := Lib.hid (own_below HOr.out B6.out)
          have z6 := B7.out.size
          obtain ⟨n, hn9⟩ : ∃ n, (sgL4 F k).length = n := ⟨_, rfl⟩
          rw [hn9] at HO6 hll
          have HN9 := Lib.hid hn9
          clear hn9 HN
          go_wp2_with (at_builtin; go_must (refine wpList_append_T _ (d := (0 : Int)) rfl (.tmp 49) (.tmp 51) _ rfl Y.heap.size _ 1 8 int4E encI_len encI_one u7 u7.ownBlock n (sgL4 F k) rfl rfl ?ow _ 1 _ [(k : Int)] rfl ?sl (by omega) ?sz ?_; (case ow => exact own_below HO6.out (by (repeat first | with_reducible assumption | with_reducible exact Below.refl _ _ | (with_reducible refine Below.alloc ?_ ?side _; case side => (first | omega | (with_reducible exact Below.size (by assumption)) | (simp; done) | (simp; omega))) | (with_reducible refine Below.setCell ?_ ?side _; case side => (first | omega | (with_reducible exact Below.size (by assumption)) | (simp; done) | (simp; omega))) | with_reducible refine Below.drew ?_ | with_reducible refine below_drewN ?_ _ | (with_reducible refine below_step (by assumption) ?side ?_; case side => (first | omega | (with_reducible exact Below.size (by assumption)) | (simp; done) | (simp; omega)))))); (case sl => exact sl_new encI_len (by first | rfl | simp) rfl rfl); (case sz => go_size); (rintro v8 w8 ho8 hg8 ha8); (have hb8 : Below Y.heap.size wr w8 := Below.grown (by (repeat first | with_reducible assumption | with_reducible exact Below.refl _ _ | (with_reducible refine Below.alloc ?_ ?side _; case side => (first | omega | (with_reducible exact Below.size (by assumption)) | (simp; done) | (simp; omega))) | (with_reducible refine Below.setCell ?_ ?side _; case side => (first | omega | (with_reducible exact Below.size (by assumption)) | (simp; done) | (simp; omega))) | with_reducible refine Below.drew ?_ | with_reducible refine below_drewN ?_ _ | (with_reducible refine below_step (by assumption) ?side ?_; case side => (first | omega | (with_reducible exact Below.size (by assumption)) | (simp; done) | (simp; omega))))) hg8 (by go_size) (own_ge HO6.out)); (have HO8 := Lib.hid ho8); (clear ho8 hg8 ha8)))
          go_roundw
          case rel => exact ⟨k + 1, by omega, by go_num, by show World.ownsRow _ _ _ _ _ _ _; rw [HSN.out, List.length_append, HN9.out]; exact HO8.out, B7.out.trans hb8⟩
          case measure => simp [intOf]; omega
    · obtain rfl : nd = k := by omega
      have hqB : decide (((nd : Nat) : Int) < nd) = false := by simp
      obtain ⟨A5, c5, e5, -, hs5⟩ := SlAt.of_own (d := (0 : Int)) encI_len HOr.out rfl
      subst e5
      have HS5 := Lib.hid (ints_iff.2 hs5)
      clear hs5
      go_wp2_with fail
      rw [Exit.noGoto_ret]
      exact bodyPost_ret (v := .tuple #[.slice A5 (sgL4 F nd).length c5, .int .i64 0]) (by simp [results, Try.results18, go_sem]) rfl ⟨A5, c5, rfl, HS5.out, hwo.out⟩

end Go.Proofs.Ytmmgkmdfecnkdaa
