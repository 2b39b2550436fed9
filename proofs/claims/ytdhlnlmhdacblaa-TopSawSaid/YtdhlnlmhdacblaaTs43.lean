/- Check of the specification and of links, whole (layer 2); append onto a row of the call's own that holds something: what the elder row held is held still. -/
import Derived.Test.YtdhlnlmhdacblaaTs42
import Derived.Handy
import Derived.Deep.DrawnRows
import Derived.Deep.DeepCutAuto
import Derived.Test.YtdhlnlmhdacblaaTs03
namespace Go.Proofs.Ytdhlnlmhdacblaa
open Go.RowKit
open Go.Sort (grow)
set_option linter.unusedVariables false
set_option linter.unusedSimpArgs false

def er2 (b : Bool) : Int := bif b then 0 else 20
theorem ck2_a {ds ss : List Dd} {nd ns : Nat} {wr : Int} (h : ¬ nd ≤ 12) : ck2 ds ss nd ns wr = false := by
  unfold ck2; rw [decide_eq_false h]; rfl
theorem ck2_b {ds ss : List Dd} {nd ns : Nat} {wr : Int} (h : ¬ ns ≤ 8) : ck2 ds ss nd ns wr = false := by
  unfold ck2; rw [decide_eq_false h]; simp
theorem ck2_c {ds ss : List Dd} {nd ns : Nat} {wr : Int} (h : wn wr 0 8 = false) : ck2 ds ss nd ns wr = false := by
  unfold ck2; rw [h]; simp
theorem ck2_d {ds ss : List Dd} {nd ns : Nat} {wr : Int} (h1 : nd ≤ 12) (h2 : ns ≤ 8) (h3 : wn wr 0 8 = true) :
    ck2 ds ss nd ns wr = (allN nd (fun k => dk2 (ddAt ds k) (ln2 ds k)) && allN ns (fun k => sk2 (ddAt ss k) nd ds)) := by
  unfold ck2; rw [decide_eq_true h1, decide_eq_true h2, h3]; rfl
set_option maxRecDepth 100000 in
set_option maxHeartbeats 1600000 in
theorem refCheck2_no (A As : Option Addr) (n c ns cs : Nat) (wr : Int) (ds ss : List Dd) (w : World) (hn : n ≤ 40) (hs : ns ≤ 40) (h : ¬ (n ≤ 12 ∧ ns ≤ 8 ∧ wn wr 0 8 = true)) :
    Calls Try.prog 12 #[.agg #[.slice A n c, .slice As ns cs, .int .i64 wr]] w fun e w' => e = .returned (.int .i64 (er2 (ck2 ds ss n ns wr))) ∧ Below w.heap.size w w' := by
  have c1 := fun V => Within2_c wr 0 8 V
  by_cases h1 : n ≤ 12
  · have hB1 : decide ((12 : Int) < n) = false := by simp; omega
    by_cases h2 : ns ≤ 8
    · have hB2 : decide ((8 : Int) < ns) = false := by simp; omega
      cases e1 : wn wr 0 8
      · rw [e1] at c1
        rw [ck2_c e1]
        replace c1 := Lib.hid c1
        go_enter Try.func12, Try.ntmps12
        go_wp2_with (go_at_call 29; refine (c1.out _).mono ?_; rintro e w' ⟨rfl, rfl⟩)
        go_ret
        exact ⟨rfl, by (repeat first | with_reducible assumption | with_reducible exact Below.refl _ _ | (with_reducible refine Below.alloc ?_ ?side _; case side => (first | omega | (with_reducible exact Below.size (by assumption)) | (simp; done) | (simp; omega))) | (with_reducible refine Below.setCell ?_ ?side _; case side => (first | omega | (with_reducible exact Below.size (by assumption)) | (simp; done) | (simp; omega))) | with_reducible refine Below.drew ?_ | with_reducible refine below_drewN ?_ _ | (with_reducible refine below_step (by assumption) ?side ?_; case side => (first | omega | (with_reducible exact Below.size (by assumption)) | (simp; done) | (simp; omega))))⟩
      · exact absurd ⟨h1, h2, e1⟩ h
    · have hB2 : decide ((8 : Int) < ns) = true := by simp; omega
      rw [ck2_b h2]
      go_enter Try.func12, Try.ntmps12
      go_wp2_with fail
      go_ret
      exact ⟨rfl, by (repeat first | with_reducible assumption | with_reducible exact Below.refl _ _ | (with_reducible refine Below.alloc ?_ ?side _; case side => (first | omega | (with_reducible exact Below.size (by assumption)) | (simp; done) | (simp; omega))) | (with_reducible refine Below.setCell ?_ ?side _; case side => (first | omega | (with_reducible exact Below.size (by assumption)) | (simp; done) | (simp; omega))) | with_reducible refine Below.drew ?_ | with_reducible refine below_drewN ?_ _ | (with_reducible refine below_step (by assumption) ?side ?_; case side => (first | omega | (with_reducible exact Below.size (by assumption)) | (simp; done) | (simp; omega))))⟩
  · have hB1 : decide ((12 : Int) < n) = true := by simp; omega
    rw [ck2_a h1]
    go_enter Try.func12, Try.ntmps12
    go_wp2_with fail
    go_ret
    exact ⟨rfl, by (repeat first | with_reducible assumption | with_reducible exact Below.refl _ _ | (with_reducible refine Below.alloc ?_ ?side _; case side => (first | omega | (with_reducible exact Below.size (by assumption)) | (simp; done) | (simp; omega))) | (with_reducible refine Below.setCell ?_ ?side _; case side => (first | omega | (with_reducible exact Below.size (by assumption)) | (simp; done) | (simp; omega))) | with_reducible refine Below.drew ?_ | with_reducible refine below_drewN ?_ _ | (with_reducible refine below_step (by assumption) ?side ?_; case side => (first | omega | (with_reducible exact Below.size (by assumption)) | (simp; done) | (simp; omega))))⟩
set_option maxRecDepth 100000 in
set_option maxHeartbeats 1600000 in
theorem linkCheck2_no (A As : Option Addr) (n c ns cs : Nat) (wr : Int) (ds ss : List Dd) (w : World) (hn : n ≤ 40) (hs : ns ≤ 40) (h : ¬ (n ≤ 12 ∧ ns ≤ 8 ∧ wn wr 0 8 = true)) :
    Calls Try.prog 33 #[.agg #[.slice A n c, .slice As ns cs, .int .i64 wr]] w fun e w' => e = .returned (.int .i64 (er2 (ck2 ds ss n ns wr))) ∧ Below w.heap.size w w' := by
  have c1 := fun V => within2_c wr 0 8 V
  by_cases h1 : n ≤ 12
  · have hB1 : decide ((12 : Int) < n) = false := by simp; omega
    by_cases h2 : ns ≤ 8
    · have hB2 : decide ((8 : Int) < ns) = false := by simp; omega
      cases e1 : wn wr 0 8
      · rw [e1] at c1
        rw [ck2_c e1]
        replace c1 := Lib.hid c1
        go_enter Try.func33, Try.ntmps33
        go_wp2_with (go_at_call 53; refine (c1.out _).mono ?_; rintro e w' ⟨rfl, rfl⟩)
        go_ret
        exact ⟨rfl, by (repeat first | with_reducible assumption | with_reducible exact Below.refl _ _ | (with_reducible refine Below.alloc ?_ ?side _; case side => (first | omega | (with_reducible exact Below.size (by assumption)) | (simp; done) | (simp; omega))) | (with_reducible refine Below.setCell ?_ ?side _; case side => (first | omega | (with_reducible exact Below.size (by assumption)) | (simp; done) | (simp; omega))) | with_reducible refine Below.drew ?_ | with_reducible refine below_drewN ?_ _ | (with_reducible refine below_step (by assumption) ?side ?_; case side => (first | omega | (with_reducible exact Below.size (by assumption)) | (simp; done) | (simp; omega))))⟩
      · exact absurd ⟨h1, h2, e1⟩ h
    · have hB2 : decide ((8 : Int) < ns) = true := by simp; omega
      rw [ck2_b h2]
      go_enter Try.func33, Try.ntmps33
      go_wp2_with fail
      go_ret
      exact ⟨rfl, by (repeat first | with_reducible assumption | with_reducible exact Below.refl _ _ | (with_reducible refine Below.alloc ?_ ?side _; case side => (first | omega | (with_reducible exact Below.size (by assumption)) | (simp; done) | (simp; omega))) | (with_reducible refine Below.setCell ?_ ?side _; case side => (first | omega | (with_reducible exact Below.size (by assumption)) | (simp; done) | (simp; omega))) | with_reducible refine Below.drew ?_ | with_reducible refine below_drewN ?_ _ | (with_reducible refine below_step (by assumption) ?side ?_; case side => (first | omega | (with_reducible exact Below.size (by assumption)) | (simp; done) | (simp; omega))))⟩
  · have hB1 : decide ((12 : Int) < n) = true := by simp; omega
    rw [ck2_a h1]
    go_enter Try.func33, Try.ntmps33
    go_wp2_with fail
    go_ret
    exact ⟨rfl, by (repeat first | with_reducible assumption | with_reducible exact Below.refl _ _ | (with_reducible refine Below.alloc ?_ ?side _; case side => (first | omega | (with_reducible exact Below.size (by assumption)) | (simp; done) | (simp; omega))) | (with_reducible refine Below.setCell ?_ ?side _; case side => (first | omega | (with_reducible exact Below.size (by assumption)) | (simp; done) | (simp; omega))) | with_reducible refine Below.drew ?_ | with_reducible refine below_drewN ?_ _ | (with_reducible refine below_step (by assumption) ?side ?_; case side => (first | omega | (with_reducible exact Below.size (by assumption)) | (simp; done) | (simp; omega))))⟩
set_option maxRecDepth 100000 in
set_option maxHeartbeats 3200000 in
theorem refCheck2_c (A As : Option Addr) (n c ns cs : Nat) (wr : Int) (ds ss : List Dd) (w : World) (hn : n ≤ 40) (hs : ns ≤ 40) (HD : DdsAt w A n ds) (HS : DdsAt w As ns ss) :
    Calls Try.prog 12 #[.agg #[.slice A n c, .slice As ns cs, .int .i64 wr]] w fun e w' => e = .returned (.int .i64 (er2 (ck2 ds ss n ns wr))) ∧ Below w.heap.size w w' := by
  by_cases h : n ≤ 12 ∧ ns ≤ 8 ∧ wn wr 0 8 = true
  case neg => exact refCheck2_no A As n c ns cs wr ds ss w hn hs h
  obtain ⟨h1, h2, e1⟩ := h
  have c1 := fun V => Within2_c wr 0 8 V
  rw [e1] at c1
  rw [ck2_d h1 h2 e1]
  replace c1 := Lib.hid c1
  have hle := Lib.hid (fun V (hV : Below w.heap.size w V) => refLengths_c A n c ds V h1 (HD.later hV))
  obtain ⟨ok, hok⟩ : ∃ b, (allN n fun k => dk2 (ddAt ds k) (ln2 ds k)) = b := ⟨_, rfl⟩
  rw [hok] at hle ⊢
  have HSI := Lib.hid HS
  have hB1 : decide ((12 : Int) < n) = false := by simp; omega
  have hB2 : decide ((8 : Int) < ns) = false := by simp; omega
  obtain ⟨R, hR⟩ : ∃ b, (ok && allN ns fun k => sk2 (ddAt ss k) n ds) = b := ⟨_, rfl⟩
  rw [hR]
  have HR := Lib.hid hR
  clear HD HS hok hR
  go_enter Try.func12, Try.ntmps12
  go_upto_region 3 with (go_at_call 29; refine (c1.out _).mono ?_; rintro e w' ⟨rfl, rfl⟩)
  go_name_world X hX
  have BX : Below w.heap.size w X := (al1 hX).1
  have q0 := (al1_0 hX).2.1
  have l0 := (al1_0 hX).1
  clear hX
  go_wp2_with fail
  refine (hle.out _ BX).mono ?_
  rintro e w1 ⟨(⟨rfl, A1, d1, rfl, hI⟩ | ⟨rfl, rfl⟩), hb1⟩
  · have HI := Lib.hid hI
    have Q1 := Lib.hid (fun j => (hb1.cell (p := ⟨w.heap.size, j, none⟩) l0).trans (q0 j))
    have B1 : Below w.heap.size w w1 := BX.trans (hb1.mono BX.size)
    have z1 := B1.size
    have l1 : w.heap.size < w1.heap.size := Nat.lt_of_lt_of_le l0 hb1.size
    have HOK : Hid ((allN ns fun k => sk2 (ddAt ss k) n ds) = R) := HR
    have cc := Q1.out
    clear hI hb1 q0
    go_wp2_with fail
    clear cc
    go_loopw [5] (fun i (wr : World) => ∃ k : Nat, k ≤ ns ∧ i = .int .i64 k ∧ Hid (∀ j, j < k → sk2 (ddAt ss j) n ds = true) ∧ Below w1.heap.size w1 wr) (fun i _ => ns - (intOf i).toNat)
    case atStart => exact ⟨0, by omega, rfl, Lib.hid (fun j hj => absurd hj (by omega)), Below.refl _ _⟩
    case round =>
      obtain ⟨k, hk, rfl, HK, hb⟩ := hrel
      have zb := hb.size
      have cc := fun j => (hb.cell (p := ⟨w.heap.size, j, none⟩) l1).trans (Q1.out j)
      have hbw : Below w.heap.size w wr := B1.trans (hb.mono z1)
      by_cases hlt : k < ns
      · have hqB : decide ((k : Int) < ns) = true := by simp; omega
        obtain ⟨b0, o0, rfl, hb0, y0, y1, y2, y3, y4⟩ := (HSI.out.later hbw).get hlt
        have hsk := refSight_c (ddAt ss k) A1 n d1 ds wr h1 (HI.out.later hb)
        obtain ⟨okk, hokk⟩ : ∃ b, sk2 (ddAt ss k) n ds = b := ⟨_, rfl⟩
        rw [hokk] at hsk
        have HOKK := Lib.hid hokk
        obtain ⟨d, hd⟩ : ∃ d, ddAt ss k = d := ⟨_, rfl⟩
        rw [hd] at y0 y1 y2 y3 y4 hsk
        replace hsk := Lib.hid hsk
        clear hd hokk
        cases okk
        · have hall : Hid (R = false) := Lib.hid (by rw [← HOK.out]; exact allN_no hlt HOKK.out)
          go_wp2_with (go_at_call 31; refine (hsk.out).mono ?_; rintro e w5 ⟨rfl, hb5⟩)
          go_ret
          exact ⟨by rw [hall.out]; rfl, hbw.trans (hb5.mono hbw.size)⟩
        · go_wp2_with (go_at_call 31; refine (hsk.out).mono ?_; rintro e w5 ⟨rfl, hb5⟩)
          go_roundw
          case rel => exact ⟨k + 1, by omega, by go_num, Lib.hid (fun j hj => (Nat.lt_succ_iff_lt_or_eq.1 hj).elim (HK.out j) fun e => by rw [e]; exact HOKK.out), hb.trans (hb5.mono zb)⟩
          case measure => simp [intOf]; omega
      · obtain rfl : k = ns := by omega
        have hqB : decide (((k : Nat) : Int) < k) = false := by simp
        have hall : Hid (R = true) := Lib.hid (by rw [← HOK.out]; exact allN_iff.2 HK.out)
        go_wp2_with fail
        go_ret
        exact ⟨by rw [hall.out]; rfl, hbw⟩
  · have HF : Hid (false = R) := HR
    go_wp2_with fail
    go_ret
    exact ⟨by rw [← HF.out]; rfl, BX.trans (hb1.mono BX.size)⟩

end Go.Proofs.Ytdhlnlmhdacblaa

namespace Go.Proofs.Ytdhlnlmhdacblaa
open Go.RowKit
open Go.Sort (grow)
set_option linter.unusedVariables false
set_option linter.unusedSimpArgs false

section
variable {P : Program} (w : World)
theorem run_append_K {α : Type} {enc : α → List Value} {d : α} (t ty e : TypeId) (base size bytes : Nat) (E : ElemT P t e size bytes) (hs : ∀ x, (enc x).length = size) (h1 : ∀ x, ∀ u ∈ enc x, u.oneCell' = true)
    (g n cap : Nat) (xs : List α) (hown : w.ownsRow base e size (.slice (some ⟨g, 0, none⟩) n cap) n (xs.flatMap enc)) (hxl : xs.length = n)
    (A : Option Addr) (m c : Nat) (ys : List α) (hr : SlAt enc size d w A m ys) (hm : 0 < m) (hsz : n + m ≤ 100000) (hbase : base ≤ w.heap.size) :
    ∃ v' w', (Builtin.append_ #[t, t] ty #[.slice (some ⟨g, 0, none⟩) n cap, .slice A m c]).run P w = .ok v' w' ∧
      w'.ownsRow base e size v' (n + m) ((xs ++ ys).flatMap enc) ∧ w.grownBy w' (some g) ∧ (v'.ownBlock = some g ∨ v'.ownBlock = some w.heap.size) ∧ ∀ j, j < n * size → w'.cell? ⟨g, j, none⟩ = w.cell? ⟨g, j, none⟩ := by
  have hgl := (hown.lt g rfl).2
  by_cases hg : cap < n + m
  · obtain ⟨A', c', e', -, hS⟩ := SlAt.of_own (d := d) hs hown hxl
    cases e'
    obtain ⟨c2, w', k1, k2, k3⟩ := run_append_new (P := P) w t ty e size bytes E hs (some ⟨g, 0, none⟩) n cap xs hS (fun h => by cases h) A m c ys hr hm hg hsz
    refine ⟨_, w', k1, ?_, ⟨k3.os, k3.tape, k3.output, k3.size, fun k hk _ => k3.block k hk⟩, .inr rfl, fun j _ => k3.cell (p := ⟨g, j, none⟩) hgl⟩
    obtain ⟨a1, a2⟩ := k2
    refine ⟨a1, ?_⟩
    rcases a2 with a2 | ⟨g', cap', cur', h1', h2', h3'⟩
    · exact .inl a2
    · exact .inr ⟨g', cap', cur', h1', Nat.le_trans hbase h2', h3'⟩
  · obtain ⟨i, z, hi, hz, hsize, hby, hzs⟩ := E.info
    have ht := E.ht
    have hsm := E.small
    have hb : (n + m) * bytes ≤ 140737488355328 := by
      have : (n + m) * bytes ≤ 100000 * 1000 := Nat.mul_le_mul hsz hsm
      omega
    have hone := oneCell_flat h1 ys
    obtain ⟨v', w', k1, k2, k3, k4⟩ := run_append_any (P := P) w base t ty e i z size bytes ht hi hz hsize hby hzs E.pos _ n (xs.flatMap enc) hown w.heap.size A m c (ys.flatMap enc) (hr.reads hs E.pos) hone (by unfold maxLen; omega) hb hbase
    have hv : v' = .slice (some ⟨g, 0, none⟩) (n + m) cap := by
      rcases hown.2 with ⟨h0, -⟩ | ⟨g', cap', cur, h0, hbg, hh, hnc, hcm, hcs, htake⟩
      · cases h0
      · injection h0 with e1 e2 e3
        injection e1 with e1
        injection e1 with e1
        subst e1 e3
        have hy := hr.reads hs E.pos
        obtain ⟨ad, rfl, -, hnews⟩ := hy.2 hm
        subst hsize
        have hfit : n * i.size + (ys.flatMap enc).length ≤ cur.size := by rw [hy.1, hcs, ← Nat.add_mul]; exact Nat.mul_le_mul_right _ (by omega)
        have hr2 := run_append_room (P := P) w t ty e i ht hi g n cap cur hh ad m c (ys.flatMap enc) hy.1 hnews hone (by omega) hfit
        rw [hr2] at k1
        injection k1 with k1
        exact k1.symm
    subst hv
    refine ⟨_, w', k1, by rw [List.flatMap_append]; exact k2, k3, .inl rfl, fun j hj => ?_⟩
    have hl : (xs.flatMap enc).length = n * size := by rw [flat_len hs, hxl]
    have c1 := k2.cellAt j (by rw [Nat.add_mul]; omega)
    have c2 := hown.cellAt j hj
    rw [List.getElem?_append_left (by omega)] at c1
    exact c1.trans c2.symm
theorem step_append_K {α : Type} {enc : α → List Value} {d : α} {ops : Array Oper} {o : Oper} {a : Act} {K : Act → World → Prop} {Q : Exit → Act → World → Prop} {Z : Prop} (hgd : o.guard = none) (s x : Operand) (t : TypeId)
    (ho : o.op = .call { callee := .builtin .append, args := #[s, x], argTypes := #[t, t] })
    (base : Nat) (e : TypeId) (size bytes : Nat) (E : ElemT P t e size bytes) (hs : ∀ x, (enc x).length = size) (h1 : ∀ x, ∀ u ∈ enc x, u.oneCell' = true)
    (g n cap : Nat) (xs : List α) (hv : a.eval s = .slice (some ⟨g, 0, none⟩) n cap) (hown : w.ownsRow base e size (.slice (some ⟨g, 0, none⟩) n cap) n (xs.flatMap enc)) (hxl : xs.length = n)
    (A : Option Addr) (m c : Nat) (ys : List α) (hx : a.eval x = .slice A m c) (hr : SlAt enc size d w A m ys) (hm : 0 < m)
    (hsz : n + m ≤ 100000) (hbase : base ≤ w.heap.size)
    (h : ∀ v' w', w'.ownsRow base e size v' (n + m) ((xs ++ ys).flatMap enc) → w.grownBy w' (some g) → (v'.ownBlock = some g ∨ v'.ownBlock = some w.heap.size) → (∀ j, j < n * size → w'.cell? ⟨g, j, none⟩ = w.cell? ⟨g, j, none⟩) → K (a.put o.dst v') w') :
    if Region.wanted o (yielded ops a.tmps) = true then Oper.wp P o a w K Q else Z := by
  have hw : Region.wanted o (yielded ops a.tmps) = true := by simp [Region.wanted, hgd]
  rw [if_pos hw]
  obtain ⟨v', w', hrun, k2, k3, k4, k5⟩ := run_append_K (P := P) w t o.type e base size bytes E hs h1 g n cap xs hown hxl A m c ys hr hm hsz hbase
  unfold Oper.wp execOp
  simp only [ho, resolve, invoke, builtin, Sem.run_bind, Sem.run_pure, Result.andThen_ok, List.map_toArray, List.map_cons, List.map_nil, hv, hx, hrun]
  exact h v' w' k2 k3 k4 k5
end

end Go.Proofs.Ytdhlnlmhdacblaa
