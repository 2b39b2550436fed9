/- makes and known of orders (layer 8); plans of orders (layer 8): all plans, handed to a function; can of orders (layer 8). -/
import Derived.Test.YtcbeiadimchknaaGreatQp13
import Derived.Shelf.Abstract
import Derived.Laws.EntriesVeiled
import Derived.Handy
import Derived.Deep.DrawnRows
import Derived.Deep.DeepCutAuto
import Derived.BigRegionIn
import Derived.Shelf.RegionOpen
import Derived.Test.YtcbeiadimchknaaGreatQp03
import Derived.Test.YtcbeiadimchknaaGreatChecked
import Derived.Test.YtcbeiadimchknaaGreatQp05
namespace Go.Proofs.YtcbeiadimchknaaGreat
open Go.RowKit
open Go.Sort (grow)
set_option linter.unusedVariables false
set_option linter.unusedSimpArgs false

theorem HsAt8.get8 {w : World} {A : Option Addr} {n : Nat} {hs : List Hd} {nss : List (List Nd8)} (h : HsAt8 w A n hs nss) {k : Nat} (hk : k < n) :
    ∃ b off, A = some ⟨b, off, none⟩ ∧ b < w.heap.size ∧ w.cell? ⟨b, off + k, none⟩ = some (.slice (hAt hs k).A (hAt hs k).n (hAt hs k).c) ∧ NdsAt w (hAt hs k).A (hAt hs k).n (hlAt nss k) := by
  obtain ⟨b, off, e, hb, hc⟩ := h.sl.2 (by omega)
  have h1 := hc k hk 0 _ rfl
  rw [Nat.mul_one] at h1
  exact ⟨b, off, e, hb, h1, h.inn k hk⟩
def mkS (nds : List Nd8) (z lo : Int) (n : Nat) : Bool := allN n fun k => decide ((ndAt nds k).size ≤ z) && decide ((ndAt nds k).long ≤ lo)
def mkN (nds : List Nd8) (z hi : Int) (n : Nat) : Bool := allN n fun k => decide (z < (ndAt nds k).size) || decide (hi < (ndAt nds k).long)
theorem allN_succ8 {n : Nat} {p : Nat → Bool} : allN (n + 1) p = (allN n p && p n) := by unfold allN; rw [List.range_succ, List.all_append]; simp
set_option maxRecDepth 100000 in
set_option maxHeartbeats 3200000 in
theorem makes_c (yb : Nat) (A : Option Addr) (nr c : Nat) (B : Option Addr) (ns d : Nat) (C : Option Addr) (nk f : Nat) (shk : Int) (Ah : Option Addr) (ch : Nat) (hs : List Hd) (nss : List (List Nd8)) (rs : List Rt8) (ss : List Sp) (ks : List Sk8) (P : Option Addr) (cp : Nat) (pl : List Int) (s : Nat) (hs3 : s < ns) (w : World) (HY : YdM yb A nr c B ns d C nk f shk Ah ch hs nss w) (HC : SksAt w C nk ks) (HP : IntsAt w P nk pl) (ok : Ok8 nr ns nk rs ss ks shk) (hbd : (hlAt nss s).length ≤ 10000) :
    Calls Tryz.prog 66 #[.pointer (some ⟨yb, 0, none⟩), .slice P nk cp, .int .i64 s] w fun e w' => e = .returned (.int .i64 (mk8 (hlAt nss s) (cbR ks shk pl s nk))) ∧ Below w.heap.size w w' := by
  have kCab := Lib.hid (fun V (hV : Below w.heap.size w V) => cable_c yb A nr c B ns d C nk f shk Ah ch rs ss ks P cp pl s V (HY.blk.below hV HY.blk.lt) (HC.later hV) (HP.later hV) ok)
  have HYI := Lib.hid HY
  have h3 := ok.sl
  obtain ⟨⟨z, lo, hi⟩, hR⟩ : ∃ R, cbR ks shk pl s nk = R := ⟨_, rfl⟩
  rw [hR] at kCab ⊢
  simp only at kCab
  obtain ⟨nds, hnd⟩ : ∃ x, hlAt nss s = x := ⟨_, rfl⟩
  rw [hnd] at hbd ⊢
  have HND := Lib.hid hnd
  have HRS : Hid (mk8 nds (z, lo, hi) = if mkS nds z lo nds.length = true then 1 else if mkN nds z hi nds.length = true then 2 else 3) := Lib.hid rfl
  obtain ⟨Rv, hRv⟩ : ∃ x, mk8 nds (z, lo, hi) = x := ⟨_, rfl⟩
  rw [hRv] at HRS ⊢
  clear HY HC HP ok hR hnd hRv
  go_enter Tryz.func66, Tryz.ntmps66
  go_upto_region 2 with (go_at_call 82; refine (kCab.out _ (Below.refl _ _)).mono ?_; rintro e w1 ⟨rfl, hb1⟩; have HB1 := Lib.hid hb1; clear hb1)
  obtain ⟨g, hg⟩ : ∃ x, w1.heap.size = x := ⟨_, rfl⟩
  go_name_world X hX
  have BX := Lib.hid (HB1.out.trans ((al1 hX).1.mono HB1.out.size))
  have HG0 : Hid (Blk X g 34 #[.int .i64 lo, .int .i64 hi]) := by rw [← hX, ← hg]; exact Lib.hid (Blk.new w1 _ _)
  rw [hg]
  have HY1 := Lib.hid (HYI.out.later BX.out)
  obtain ⟨b9, o9, hA9, hb9, hx9, hn9⟩ := HY1.out.hu.get8 hs3
  rw [HND.out] at hn9
  have hl9 := hn9.1
  obtain ⟨⟨L, m, c9⟩, hhd⟩ : ∃ x, hAt hs s = x := ⟨_, rfl⟩
  rw [hhd] at hx9 hn9 hl9
  simp only at hx9 hn9 hl9
  have HNS := Lib.hid hn9
  have hsI : (s : Int) < ns := by omega
  have q0 := HY1.out.blk.cell
  have l0 := HY1.out.blk.lt
  subst hA9
  clear hX hn9 hhd hg
  go_wp2_with fail
  clear q0 l0 hx9
  go_loopw [9, 10, 29] (fun su nv i (wv : World) => ∃ k : Nat, k ≤ m ∧ i = .int .i64 k ∧ su = .bool (mkS nds z lo k) ∧ nv = .bool (mkN nds z hi k) ∧ Hid (Below X.heap.size X wv)) (fun _ _ i _ => m - (intOf i).toNat)
  case atStart => exact ⟨0, by omega, rfl, rfl, rfl, Lib.hid (Below.refl _ _)⟩
  case round =>
    obtain ⟨k, hk, rfl, rfl, rfl, HB⟩ := hrel
    have zb := HB.out.size
    by_cases hlt : k < m
    · have hqB : decide ((k : Int) < m) = true := decide_eq_true (by omega)
      have vk : IntKind.i64.wrap ((k : Int) + 1) = (k : Int) + 1 := IntWalk.i64_in _ (by omega)
      obtain ⟨b0, o0, hA, hb0, x0, x1⟩ := (HNS.out.later HB.out).get hlt
      have sS : mkS nds z lo (k + 1) = (mkS nds z lo k && (decide ((ndAt nds k).size ≤ z) && decide ((ndAt nds k).long ≤ lo))) := allN_succ8
      have sN : mkN nds z hi (k + 1) = (mkN nds z hi k && (decide (z < (ndAt nds k).size) || decide (hi < (ndAt nds k).long))) := allN_succ8
      obtain ⟨⟨u0, u1⟩, hu⟩ : ∃ x, ndAt nds k = x := ⟨_, rfl⟩
      rw [hu] at x0 x1 sS sN
      simp only at x0 x1 sS sN
      subst hA
      obtain ⟨su, hsu⟩ : ∃ x, mkS nds z lo k = x := ⟨_, rfl⟩
      obtain ⟨nv, hnv⟩ : ∃ x, mkN nds z hi k = x := ⟨_, rfl⟩
      rw [hsu] at sS ⊢
      rw [hnv] at sN ⊢
      obtain ⟨d1, hd1⟩ : ∃ x, decide (u0 ≤ z) = x := ⟨_, rfl⟩
      obtain ⟨d2, hd2⟩ : ∃ x, decide (u1 ≤ lo) = x := ⟨_, rfl⟩
      obtain ⟨d3, hd3⟩ : ∃ x, decide (z < u0) = x := ⟨_, rfl⟩
      obtain ⟨d4, hd4⟩ : ∃ x, decide (hi < u1) = x := ⟨_, rfl⟩
      rw [hd1, hd2] at sS
      rw [hd3, hd4] at sN
      have SS := Lib.hid sS
      have SN := Lib.hid sN
      clear sS sN hsu hnv hu
      go_upto_region 6 with (fail)
      go_name_world Z hZ
      have BZ : Below wr.heap.size wr Z := (al1 hZ).1
      have HKZ : Hid (Blk Z wr.heap.size 141 #[.int .i64 u0, .int .i64 u1]) := by rw [← hZ]; exact Lib.hid (Blk.new wr _ _)
      have HGZ := Lib.hid (HG0.out.below (HB.out.trans (BZ.mono zb)) HG0.out.lt)
      have ck := HKZ.out.cell
      have lk := HKZ.out.lt
      have cg := HGZ.out.cell
      have lg := HGZ.out.lt
      have HBZ := Lib.hid (HB.out.trans (BZ.mono zb))
      clear hZ x0 x1
      go_cut [9] (fun s9 (V : World) => s9 = .bool (su && (d1 && d2)) ∧ V = Z)
      case first =>
        cases su <;> cases d1 <;> cases d2
        all_goals
          go_wp2_with fail
          go_meet
          exact ⟨rfl, rfl⟩
      case rest =>
        obtain ⟨rfl, rfl⟩ := hcut
        cases nv <;> cases d3 <;> cases d4
        all_goals
          go_wp2_with fail
          go_roundw
          case rel => exact ⟨k + 1, by omega, by go_num, by rw [SS.out], by rw [SN.out]; rfl, HBZ⟩
          case measure => simp [intOf]; omega
    · obtain rfl : k = m := by omega
      have hqB : decide (((k : Nat) : Int) < k) = false := decide_eq_false (by omega)
      have hr := HRS.out
      rw [hl9] at hr
      obtain ⟨su, hsu⟩ : ∃ x, mkS nds z lo k = x := ⟨_, rfl⟩
      obtain ⟨nv, hnv⟩ : ∃ x, mkN nds z hi k = x := ⟨_, rfl⟩
      rw [hsu, hnv] at hr
      rw [hsu, hnv]
      have HRR := Lib.hid hr
      have HBF := Lib.hid (BX.out.trans (HB.out.mono BX.out.size))
      clear hr hsu hnv
      cases su <;> cases nv
      all_goals
        go_wp2_with fail
        go_ret
        exact ⟨by rw [HRR.out]; rfl, HBF.out⟩
theorem mk8_123 (nds : List Nd8) (c : Int × Int × Int) : mk8 nds c = 1 ∨ mk8 nds c = 2 ∨ mk8 nds c = 3 := by
  unfold mk8
  split
  · exact .inl rfl
  · split
    · exact .inr (.inl rfl)
    · exact .inr (.inr rfl)
theorem knK_2 {hs : List (List Nd8)} {ks : List Sk8} {shk : Int} {pl : List Int} {nk k : Nat} (h : knK hs ks shk pl nk k = 2) : ∀ j, knK hs ks shk pl nk (k + j) = 2
  | 0 => h
  | j + 1 => by
    show knK hs ks shk pl nk (k + j + 1) = 2
    unfold knK
    rw [knK_2 h j]
    rfl
set_option maxRecDepth 100000 in
set_option maxHeartbeats 1600000 in
theorem known8_c (yb : Nat) (A : Option Addr) (nr c : Nat) (B : Option Addr) (ns d : Nat) (C : Option Addr) (nk f : Nat) (shk : Int) (Ah : Option Addr) (ch : Nat) (hs : List Hd) (nss : List (List Nd8)) (rs : List Rt8) (ss : List Sp) (ks : List Sk8) (P : Option Addr) (cp : Nat) (pl : List Int) (w : World) (HY : YdM yb A nr c B ns d C nk f shk Ah ch hs nss w) (HC : SksAt w C nk ks) (HP : IntsAt w P nk pl) (ok : Ok8 nr ns nk rs ss ks shk) (hbd : ∀ s, s < ns → (hlAt nss s).length ≤ 10000) :
    Calls Tryz.prog 35 #[.pointer (some ⟨yb, 0, none⟩), .slice P nk cp] w fun e w' => e = .returned (.int .i64 (knK nss ks shk pl nk ns)) ∧ Below w.heap.size w w' := by
  have kMak := Lib.hid (fun (s : Nat) (h : s < ns) V (hV : Below w.heap.size w V) => makes_c yb A nr c B ns d C nk f shk Ah ch hs nss rs ss ks P cp pl s h V (HY.later hV) (HC.later hV) (HP.later hV) ok (hbd s h))
  have HYI := Lib.hid HY
  have h3 := ok.sl
  have q0 := HY.blk.cell
  have l0 := HY.blk.lt
  clear HY HC HP ok hbd
  go_enter Tryz.func35, Tryz.ntmps35
  go_wp2_with fail
  clear q0 l0
  go_loopw [5, 13] (fun o i (wv : World) => ∃ k : Nat, k ≤ ns ∧ i = .int .i64 k ∧ o = .int .i64 (knK nss ks shk pl nk k) ∧ Hid (knK nss ks shk pl nk k ≠ 2) ∧ Hid (Below w.heap.size w wv)) (fun _ i _ => ns - (intOf i).toNat)
  case atStart => exact ⟨0, by omega, rfl, rfl, Lib.hid (by simp [knK]), Lib.hid (Below.refl _ _)⟩
  case round =>
    obtain ⟨k, hk, rfl, rfl, H2, HB⟩ := hrel
    by_cases hlt : k < ns
    · have hqB : decide ((k : Int) < ns) = true := decide_eq_true (by omega)
      have vk : IntKind.i64.wrap ((k : Int) + 1) = (k : Int) + 1 := IntWalk.i64_in _ (by omega)
      have hsu : knK nss ks shk pl nk (k + 1) = if mk8 (hlAt nss k) (cbR ks shk pl k nk) = 2 then 2 else if mk8 (hlAt nss k) (cbR ks shk pl k nk) = 3 then 3 else knK nss ks shk pl nk k := by
        show (if knK nss ks shk pl nk k = 2 then 2 else _) = _
        rw [if_neg H2.out]
      have hm := kMak.out k hlt wr HB.out
      have hv := mk8_123 (hlAt nss k) (cbR ks shk pl k nk)
      obtain ⟨v, hvv⟩ : ∃ x, mk8 (hlAt nss k) (cbR ks shk pl k nk) = x := ⟨_, rfl⟩
      rw [hvv] at hsu hm hv
      have HM := Lib.hid hm
      clear hm hvv
      rcases hv with rfl | rfl | rfl
      · rw [if_neg (by decide), if_neg (by decide)] at hsu
        have SS := Lib.hid hsu
        clear hsu
        go_wp2_with (go_at_call 66; refine HM.out.mono ?_; rintro e w1 ⟨rfl, hb1⟩; have HB1 := Lib.hid (HB.out.trans (hb1.mono HB.out.size)); clear hb1)
        go_roundw
        case rel => exact ⟨k + 1, by omega, by go_num, by rw [SS.out], by rw [SS.out]; exact H2, HB1⟩
        case measure => simp [intOf]; omega
      · rw [if_pos rfl] at hsu
        have SS : Hid (knK nss ks shk pl nk ns = 2) := Lib.hid (by rw [show ns = k + 1 + (ns - (k + 1)) by omega]; exact knK_2 hsu _)
        clear hsu
        go_wp2_with (go_at_call 66; refine HM.out.mono ?_; rintro e w1 ⟨rfl, hb1⟩; have HB1 := Lib.hid (HB.out.trans (hb1.mono HB.out.size)); clear hb1)
        go_ret
        exact ⟨by rw [SS.out]; rfl, HB1.out⟩
      · rw [if_neg (by decide), if_pos rfl] at hsu
        have SS := Lib.hid hsu
        clear hsu
        go_wp2_with (go_at_call 66; refine HM.out.mono ?_; rintro e w1 ⟨rfl, hb1⟩; have HB1 := Lib.hid (HB.out.trans (hb1.mono HB.out.size)); clear hb1)
        go_roundw
        case rel => exact ⟨k + 1, by omega, by go_num, by rw [SS.out], by rw [SS.out]; exact Lib.hid (by decide), HB1⟩
        case measure => simp [intOf]; omega
    · obtain rfl : k = ns := by omega
      have hqB : decide (((k : Nat) : Int) < k) = false := decide_eq_false (by omega)
      go_wp2_with fail
      go_ret
      exact ⟨rfl, HB.out⟩

end Go.Proofs.YtcbeiadimchknaaGreat

namespace Go.Proofs.YtcbeiadimchknaaGreat
open Go.RowKit
open Go.Sort (grow)
set_option linter.unusedVariables false
set_option linter.unusedSimpArgs false

theorem fm_len {α : Type} {f : Nat → List α} {L : Nat} : ∀ {m : Nat}, (∀ i, i < m → (f i).length = L) → ((List.range m).flatMap f).length = m * L
  | 0, _ => by simp
  | m + 1, h => by
    rw [List.range_succ, List.flatMap_append, List.length_append, fm_len (fun i hi => h i (by omega)), Nat.succ_mul]
    simp [h m (by omega)]
theorem fm_get {α : Type} {f : Nat → List α} {L t j : Nat} {q : α} : ∀ {m : Nat}, (∀ i, i < m → (f i).length = L) → t < m → (f t)[j]? = some q → ((List.range m).flatMap f)[t * L + j]? = some q
  | 0, _, h, _ => absurd h (by omega)
  | m + 1, h, ht, hq => by
    have hl := fm_len (f := f) (L := L) (m := m) (fun i hi => h i (by omega))
    have hj : j < L := by have := (List.getElem?_eq_some_iff.1 hq).1; have := h t ht; omega
    rw [List.range_succ, List.flatMap_append]
    by_cases e : t = m
    · subst e
      rw [List.getElem?_append_right (by omega), hl, Nat.add_sub_cancel_left]
      simpa using hq
    · have h1 : t < m := by omega
      have h2 : t * L + j < m * L := by
        have : (t + 1) * L ≤ m * L := Nat.mul_le_mul_right L h1
        rw [Nat.succ_mul] at this
        omega
      rw [List.getElem?_append_left (by omega)]
      exact fm_get (fun i hi => h i (by omega)) h1 hq
theorem plL_len {m : Nat} : ∀ (r : Nat) (p : List Int), (plL m r p).length = (m + 1) ^ r
  | 0, _ => rfl
  | r + 1, p => by
    unfold plL
    rw [fm_len (L := (m + 1) ^ r) (fun i _ => plL_len r _), Nat.pow_succ, Nat.mul_comm]
/-- what turned: new blocks, and blocks of O -/
structure StO (O O' : Nat → Prop) (W W' : World) : Prop where
  os : W'.os = W.os
  tape : W'.tape = W.tape
  output : W'.output = W.output
  size : W.heap.size ≤ W'.heap.size
  newO : ∀ b, O' b → O b ∨ W.heap.size ≤ b
  same : ∀ b, b < W.heap.size → ¬ O b → W'.heap[b]? = W.heap[b]?
theorem StO.of_below {O : Nat → Prop} {W W' : World} (h : Below W.heap.size W W') : StO O O W W' := ⟨h.os, h.tape, h.output, h.size, fun _ h => .inl h, fun b hb _ => h.block b hb⟩
theorem StO.trans {O O' O'' : Nat → Prop} {W W' W'' : World} (h : StO O O' W W') (k : StO O' O'' W' W'') : StO O O'' W W'' :=
  ⟨k.os.trans h.os, k.tape.trans h.tape, k.output.trans h.output, Nat.le_trans h.size k.size, fun b hb => (k.newO b hb).elim (fun h1 => h.newO b h1) (fun h1 => .inr (Nat.le_trans h.size h1)), fun b hb hn => (k.same b (Nat.lt_of_lt_of_le hb h.size) (fun h1 => (h.newO b h1).elim hn (fun h2 => by omega))).trans (h.same b hb hn)⟩
theorem StO.ints {O O' : Nat → Prop} {W W' : World} (h : StO O O' W W') {A : Option Addr} {n : Nat} {xs : List Int} (hx : IntsAt W A n xs) (hA : ∀ a, A = some a → ¬ O a.block) : IntsAt W' A n xs := by
  refine ⟨hx.1, fun hn => ?_⟩
  obtain ⟨b, off, rfl, hb, hc⟩ := hx.2 hn
  exact ⟨b, off, rfl, Nat.lt_of_lt_of_le hb h.size, fun k hk j u hu => (World.cell?_of_block (h.same b hb (hA _ rfl))).trans (hc k hk j u hu)⟩
/-- what a call of yield, or of plans, leaves -/
def PlRet (J : (Nat → Prop) → Nat → World → Prop) (Jx : (Nat → Prop) → World → Prop) (O : Nat → Prop) (k : Nat) (W : World) (e : Ending) (W' : World) : Prop :=
  (e = .returned (.bool true) ∧ ∃ O', J O' k W' ∧ StO O O' W W') ∨ (e = .returned (.bool false) ∧ ∃ O', Jx O' W' ∧ StO O O' W W')
theorem intE8 : ElemT Tryz.prog 29 3 1 8 := by
  obtain ⟨i0, hi0, hz0, hz1, hz2⟩ := info_parts (P := Tryz.prog) (show (Tryz.prog.info? 3).map (fun i => (i.zero, i.size, i.bytes)) = some (some (.int .i64 0), 1, 8) by kernel_rfl)
  exact ⟨Tryz.underlying29, ⟨i0, _, hi0, hz0, hz1, hz2, rfl⟩, by omega, by omega⟩
section
variable (yb : Nat) (A : Option Addr) (nr c : Nat) (B : Option Addr) (ns d : Nat) (C : Option Addr) (nk f : Nat) (shk : Int) (Ah : Option Addr) (ch : Nat) (g : Nat) (fst cap : Array Value) (all : List (List Int)) (J : (Nat → Prop) → Nat → World → Prop) (Jx : (Nat → Prop) → World → Prop)
  (hns : ns ≤ 3) (hnk : nk ≤ 7) (HE : ∀ args w, (callFunc g args).run Tryz.prog w = .ok (.enter g args) w)
  (hJ : ∀ O k W W', J O k W → Below W.heap.size W W' → J O k W') (hO : ∀ O k W, J O k W → ∀ b, O b → b < W.heap.size)
  (hY : ∀ O k W, J O k W → Blk W yb 122 #[.slice A nr c, .slice B ns d, .slice C nk f, .int .i64 shk, .slice Ah ns ch])
  (HF : ∀ O k p W PA pc, all[k]? = some p → J O k W → IntsAt W PA nk p → (∀ a, PA = some a → ¬ O a.block) → Calls Tryz.prog g (fst.push (.slice PA nk pc) ++ cap) W (PlRet J Jx O (k + 1) W))
include hns hnk HE hJ hO hY HF
set_option maxRecDepth 100000 in
set_option maxHeartbeats 3200000 in
theorem plans_c : ∀ (r n : Nat) (p : List Int) (k0 : Nat) (O : Nat → Prop) (W : World) (PA : Option Addr) (pc : Nat), n ≤ pc → n + r = nk → IntsAt W PA n p → (∀ a, PA = some a → ¬ O a.block) → J O k0 W → (∀ j q, (plL ns r p)[j]? = some q → all[k0 + j]? = some q) →
    Calls Tryz.prog 75 #[.pointer (some ⟨yb, 0, none⟩), .func (.func g) fst cap, .slice PA n pc] W (PlRet J Jx O (k0 + (plL ns r p).length) W)
  | 0, n, p, k0, O, W, PA, pc, _, hn, hP, hPO, h0, hq => by
    have hk := HF O k0 p W PA pc (by have := hq 0 p rfl; simpa using this) h0 (by rw [← hn]; simpa using hP) hPO
    have HK := Lib.hid hk
    have q0 := (hY O k0 W h0).cell
    have l0 := (hY O k0 W h0).lt
    have HJH := Lib.hid HF
    obtain rfl : n = nk := by omega
    have hB : ((n : Int) == n) = true := by simp
    clear hk HF hJ hO hY hP hPO h0 hq hn
    go_enter Tryz.func75, Tryz.ntmps75
    go_wp2_with fail
    refine HK.out.mono ?_
    rintro e w1 (⟨rfl, h1⟩ | ⟨rfl, h1⟩)
    · have H1 := Lib.hid h1
      clear h1
      go_wp2_with fail
      go_ret
      exact .inl ⟨rfl, H1.out⟩
    · have H1 := Lib.hid h1
      clear h1
      go_wp2_with fail
      go_ret
      exact .inr ⟨rfl, H1.out⟩
  | r + 1, n, p, k0, O, W, PA, pc, hpc, hn, hP, hPO, h0, hq => by
    have ih := Lib.hid (fun q k1 O1 W1 A1 c1 => plans_c r (n + 1) q k1 O1 W1 A1 c1)
    have q0 := (hY O k0 W h0).cell
    have l0 := (hY O k0 W h0).lt
    have HJH := Lib.hid hJ
    have HOH := Lib.hid hO
    have HYH := Lib.hid hY
    have HPH := Lib.hid hP
    have HPO := Lib.hid hPO
    have H0 := Lib.hid h0
    have hpn := hP.1
    obtain ⟨L, hL⟩ : ∃ L, (ns + 1) ^ r = L := ⟨_, rfl⟩
    have HQ : Hid (∀ t, t ≤ ns → ∀ j q, (plL ns r (p ++ [(t : Int) - 1]))[j]? = some q → all[k0 + t * L + j]? = some q) := Lib.hid (fun t ht j q h => by
      have := hq (t * L + j) q (fm_get (L := L) (fun i _ => (plL_len r _).trans hL) (by omega) h)
      rwa [← Nat.add_assoc] at this)
    have HLN : Hid ((plL ns (r + 1) p).length = (ns + 1) * L) := Lib.hid (by rw [plL_len, Nat.pow_succ, hL, Nat.mul_comm])
    have HLR : Hid (∀ q, (plL ns r q).length = L) := Lib.hid (fun q => (plL_len r q).trans hL)
    obtain ⟨N, hN⟩ : ∃ N, k0 + (plL ns (r + 1) p).length = N := ⟨_, rfl⟩
    have HN : Hid (k0 + (ns + 1) * L = N) := Lib.hid (by rw [← hN, HLN.out])
    rw [hN]
    have hlt : n < nk := by omega
    have hnr : n + 1 + r = nk := by omega
    have hB : ((n : Int) == nk) = false := by simp; omega
    clear HF hJ hO hY hP hPO h0 hq hn hL hN
    go_enter Tryz.func75, Tryz.ntmps75
    go_wp2_with fail
    clear q0 l0
    go_loopw [8] (fun i (wv : World) => ∃ t : Nat, t ≤ ns + 1 ∧ i = .int .i64 ((t : Int) - 1) ∧ Hid (∃ O', J O' (k0 + t * L) wv ∧ StO O O' W wv)) (fun i _ => (ns - intOf i).toNat)
    case atStart => exact ⟨0, by omega, by simp, Lib.hid ⟨O, by simpa using H0.out, .of_below (Below.refl _ _)⟩⟩
    case round =>
      obtain ⟨t, ht, rfl, HI⟩ := hrel
      obtain ⟨O1, hJ1, hS1⟩ := HI.out
      have HJ1 := Lib.hid hJ1
      have HS1 := Lib.hid hS1
      have hy := HYH.out _ _ _ hJ1
      have q1 := hy.cell
      have l1 := hy.lt
      clear hy hJ1 hS1
      by_cases htl : t < ns + 1
      · have hqB : decide ((t : Int) - 1 < ns) = true := decide_eq_true (by omega)
        have vk : IntKind.i64.wrap ((t : Int) - 1 + 1) = ((t + 1 : Nat) : Int) - 1 := by rw [IntWalk.i64_in _ (by omega)]; omega
        have HP1 := Lib.hid (HS1.out.ints HPH.out HPO.out)
        have hnn : PA = none → n = 0 ∧ n = 0 := fun h => by
          rcases Nat.eq_zero_or_pos n with e | e
          · exact ⟨e, e⟩
          · obtain ⟨b, off, e2, -⟩ := HPH.out.2 (by omega)
            rw [h] at e2
            cases e2
        have HO1 := Lib.hid (HOH.out _ _ _ HJ1.out)
        have hnI : (n : Int) ≤ n := Int.le_refl _
        clear HI
        go_wp2_with (first | (at_builtin; go_must (refine wpList_append_N _ (d := (0 : Int)) rfl (.tmp 37) (.tmp 39) _ rfl _ 1 8 intE8 encI_len PA n n p rfl ?sl ?nn (some ⟨wr.heap.size, 0, none⟩) 1 1 [(t : Int) - 1] rfl ?sr (by omega) (by omega) (by omega) ?_; (case sl => exact ints_iff.1 (HP1.out.later (by (repeat first | with_reducible assumption | with_reducible exact Below.refl _ _ | (with_reducible refine Below.alloc ?_ ?side _; case side => (first | omega | (with_reducible exact Below.size (by assumption)) | (simp; done) | (simp; omega))) | (with_reducible refine Below.setCell ?_ ?side _; case side => (first | omega | (with_reducible exact Below.size (by assumption)) | (simp; done) | (simp; omega))) | with_reducible refine Below.drew ?_ | with_reducible refine below_drewN ?_ _ | (with_reducible refine below_step (by assumption) ?side ?_; case side => (first | omega | (with_reducible exact Below.size (by assumption)) | (simp; done) | (simp; omega))))))); (case nn => exact hnn); (case sr => exact sl_new encI_len rfl rfl rfl); (rintro c5 w5 ho5 hb5); (have HO5 := Lib.hid ho5); (have HB5 := Lib.hid hb5); clear ho5 hb5)))
        obtain ⟨Ax, cx, ea, hcc, hsl⟩ := SlAt.of_own (d := (0 : Int)) encI_len HO5.out (by simp [hpn])
        cases ea
        rw [World.size_alloc] at hsl
        have hB5 : Below wr.heap.size wr w5 := Below.trans (b := wr.alloc (.cells #[.int .i64 ((t : Int) - 1)] 3)) ((Below.refl _ _).alloc (Nat.le_refl _) _) (HB5.out.mono (by simp))
        have hJ5 := HJH.out _ _ _ _ HJ1.out hB5
        have HS5 := Lib.hid (HS1.out.trans (StO.of_below hB5))
        have hz : wr.heap.size ≤ wr.heap.size + 1 := Nat.le_succ _
        have hfr : ∀ a, (some ⟨wr.heap.size + 1, 0, none⟩ : Option Addr) = some a → ¬ O1 a.block := fun a e hO => by
          have e2 := Option.some.inj e
          rw [← e2] at hO
          have h1 : wr.heap.size + 1 < wr.heap.size := HO1.out _ hO
          omega
        have hfin := ih.out (p ++ [(t : Int) - 1]) (k0 + t * L) O1 w5 (some ⟨wr.heap.size + 1, 0, none⟩) c5 hcc hnr (ints_iff.2 hsl) hfr hJ5 (HQ.out t (by omega))
        rw [HLR.out] at hfin
        clear hJ5 hB5 hsl hfr HO5
        refine hfin.mono ?_
        clear hfin
        rintro e w6 (⟨rfl, O6, hJ6, hS6⟩ | ⟨rfl, O6, hJ6, hS6⟩)
        · have HJ6 := Lib.hid hJ6
          have HS6 := Lib.hid (HS5.out.trans hS6)
          clear hJ6 hS6
          go_wp2_with fail
          go_roundw
          case rel => exact ⟨t + 1, by omega, by first | rfl | simp, Lib.hid ⟨O6, by rw [Nat.succ_mul, ← Nat.add_assoc]; exact HJ6.out, HS6.out⟩⟩
          case measure => simp [intOf]; omega
        · have HJ6 := Lib.hid hJ6
          have HS6 := Lib.hid (HS5.out.trans hS6)
          clear hJ6 hS6
          go_wp2_with fail
          go_ret
          exact .inr ⟨rfl, O6, HJ6.out, HS6.out⟩
      · obtain rfl : t = ns + 1 := by omega
        have hqB : decide (((ns + 1 : Nat) : Int) - 1 < ns) = false := decide_eq_false (by omega)
        go_wp2_with fail
        go_ret
        exact .inl ⟨rfl, O1, by rw [← HN.out]; exact HJ1.out, HS1.out⟩
end

end Go.Proofs.YtcbeiadimchknaaGreat

namespace Go.Proofs.YtcbeiadimchknaaGreat
open Go.RowKit
open Go.Sort (grow)
set_option linter.unusedVariables false
set_option linter.unusedSimpArgs false

theorem nS_len {nr ns nk : Nat} {rs : List Rt8} {ss : List Sp} {ks : List Sk8} {shk : Int} (ok : Ok8 nr ns nk rs ss ks shk) {s : Nat} (hs : s < ns) : (hlAt (huL rs nr ss ns) s).length ≤ 10000 := by
  rw [huL_at hs]
  have h1 := ok.sp s hs
  have h2 := nL_len (rs := rs) (nr := nr) (t := (spAt ss s).lo) ((spAt ss s).hi - (spAt ss s).lo + 1).toNat
  unfold nS
  omega
/-- whether some plan surely makes the order -/
def canP (rs : List Rt8) (nr : Nat) (ss : List Sp) (ns : Nat) (ks : List Sk8) (nk : Nat) (shk : Int) : Bool := (plL ns nk []).any fun p => knK (huL rs nr ss ns) ks shk p nk ns == 1
set_option maxHeartbeats 800000 in
theorem can1_c (bx yb : Nat) (A : Option Addr) (nr c : Nat) (B : Option Addr) (ns d : Nat) (C : Option Addr) (nk f : Nat) (shk : Int) (Ah : Option Addr) (ch : Nat) (hs : List Hd) (nss : List (List Nd8)) (rs : List Rt8) (ss : List Sp) (ks : List Sk8) (P : Option Addr) (cp : Nat) (pl : List Int) (w : World) (HX : Blk w bx 81 #[.pointer (some ⟨yb, 0, none⟩)]) (HY : YdM yb A nr c B ns d C nk f shk Ah ch hs nss w) (HC : SksAt w C nk ks) (HP : IntsAt w P nk pl) (ok : Ok8 nr ns nk rs ss ks shk) (hbd : ∀ s, s < ns → (hlAt nss s).length ≤ 10000) :
    Calls Tryz.prog 76 #[.slice P nk cp, .pointer (some ⟨bx, 0, none⟩)] w fun e w' => e = .returned (.bool (!(knK nss ks shk pl nk ns == 1))) ∧ Below w.heap.size w w' := by
  have kKn := Lib.hid (known8_c yb A nr c B ns d C nk f shk Ah ch hs nss rs ss ks P cp pl w HY HC HP ok hbd)
  obtain ⟨v, hv⟩ : ∃ x, knK nss ks shk pl nk ns = x := ⟨_, rfl⟩
  rw [hv] at kKn ⊢
  have kSu := Lib.hid (fun V => surely8_c v V)
  have q0 := HX.cell
  have l0 := HX.lt
  clear HX HY HC HP ok hbd hv
  obtain ⟨b, hb⟩ : ∃ b, (v == 1) = b := ⟨_, rfl⟩
  rw [hb] at kSu ⊢
  clear hb
  go_enter Tryz.func76, Tryz.ntmps76
  go_wp2_with (first | (go_at_call 35; refine kKn.out.mono ?_; rintro e w1 ⟨rfl, hb1⟩; have HB1 := Lib.hid hb1; clear hb1) | (go_at_call 37; refine (kSu.out _).mono ?_; rintro e w' ⟨rfl, rfl⟩))
  go_ret
  exact ⟨rfl, HB1.out⟩
/-- the memory while can asks for all plans -/
structure CaM (w : World) (bx yb : Nat) (A : Option Addr) (nr c : Nat) (B : Option Addr) (ns d : Nat) (C : Option Addr) (nk f : Nat) (shk : Int) (Ah : Option Addr) (ch : Nat) (hs : List Hd) (nss : List (List Nd8)) (ks : List Sk8) (W : World) : Prop where
  below : Below w.heap.size w W
  box : Blk W bx 81 #[.pointer (some ⟨yb, 0, none⟩)]
  yd : YdM yb A nr c B ns d C nk f shk Ah ch hs nss W
  sk : SksAt W C nk ks
theorem CaM.later {w : World} {bx yb : Nat} {A : Option Addr} {nr c : Nat} {B : Option Addr} {ns d : Nat} {C : Option Addr} {nk f : Nat} {shk : Int} {Ah : Option Addr} {ch : Nat} {hs : List Hd} {nss : List (List Nd8)} {ks : List Sk8} {W W' : World} (h : CaM w bx yb A nr c B ns d C nk f shk Ah ch hs nss ks W) (hb : Below W.heap.size W W') : CaM w bx yb A nr c B ns d C nk f shk Ah ch hs nss ks W' := ⟨h.below.trans (hb.mono h.below.size), h.box.below hb h.box.lt, h.yd.later hb, h.sk.later hb⟩
set_option maxRecDepth 100000 in
set_option maxHeartbeats 1600000 in
theorem can8_c (A : Option Addr) (nr c : Nat) (B : Option Addr) (ns d : Nat) (C : Option Addr) (nk f : Nat) (shk : Int) (rs : List Rt8) (ss : List Sp) (ks : List Sk8) (w : World) (HA : RtsAt w A nr rs) (HB : SpsAt w B ns ss) (HC : SksAt w C nk ks) (ok : Ok8 nr ns nk rs ss ks shk) :
    Calls Tryz.prog 47 #[.agg #[.slice A nr c, .slice B ns d, .slice C nk f, .int .i64 shk]] w fun e w' => e = .returned (.bool (canP rs nr ss ns ks nk shk)) ∧ Below w.heap.size w w' := by
  have en1 : ∀ args w, (callFunc 76 args).run Tryz.prog w = .ok (.enter 76 args) w := enters_of Tryz.func76 (by kernel_rfl) rfl
  have kOp := Lib.hid (fun V (hV : Below w.heap.size w V) => open8_c A nr c B ns d C nk f shk rs ss ks V (HA.later hV) (HB.later hV) ok)
  have kPl : Hid (∀ bx yb Ah ch hs W, w.heap.size ≤ yb → CaM w bx yb A nr c B ns d C nk f shk Ah ch hs (huL rs nr ss ns) ks W → Calls Tryz.prog 75 #[.pointer (some ⟨yb, 0, none⟩), .func (.func 76) #[] #[.pointer (some ⟨bx, 0, none⟩)], .slice none 0 0] W fun e W' => e = .returned (.bool (!(canP rs nr ss ns ks nk shk))) ∧ Below w.heap.size w W') := Lib.hid (fun bx yb Ah ch hs W _ hM => by
    have := plans_c yb A nr c B ns d C nk f shk Ah ch 76 #[] #[.pointer (some ⟨bx, 0, none⟩)] (plL ns nk [])
      (fun O k V => (∀ b, ¬ O b) ∧ CaM w bx yb A nr c B ns d C nk f shk Ah ch hs (huL rs nr ss ns) ks V ∧ ∀ j p, j < k → (plL ns nk [])[j]? = some p → (knK (huL rs nr ss ns) ks shk p nk ns == 1) = false)
      (fun O V => Below w.heap.size w V ∧ canP rs nr ss ns ks nk shk = true) ok.sl ok.kl en1 (fun O k V V' h hb => ⟨h.1, h.2.1.later hb, h.2.2⟩) (fun O k V h b hb => absurd hb (h.1 b)) (fun O k V h => h.2.1.yd.blk)
      (fun O k p V PA pc hp h hP _ => by
        refine (by simpa using can1_c bx yb A nr c B ns d C nk f shk Ah ch hs (huL rs nr ss ns) rs ss ks PA pc p V h.2.1.box h.2.1.yd h.2.1.sk hP ok (fun s hs => nS_len ok hs) : Calls Tryz.prog 76 ((#[] : Array Value).push (.slice PA nk pc) ++ #[.pointer (some ⟨bx, 0, none⟩)]) V fun e w' => e = .returned (.bool (!(knK (huL rs nr ss ns) ks shk p nk ns == 1))) ∧ Below V.heap.size V w').mono ?_
        rintro e V' ⟨rfl, hb⟩
        cases hk : (knK (huL rs nr ss ns) ks shk p nk ns == 1)
        · refine .inl ⟨rfl, O, ⟨h.1, h.2.1.later hb, fun j q hj hq => ?_⟩, .of_below hb⟩
          rcases Nat.lt_succ_iff_lt_or_eq.1 hj with h' | rfl
          · exact h.2.2 j q h' hq
          · rw [hp] at hq; cases hq; exact hk
        · exact .inr ⟨rfl, O, ⟨h.2.1.below.trans (hb.mono h.2.1.below.size), List.any_eq_true.2 ⟨p, List.mem_of_getElem? hp, hk⟩⟩, .of_below hb⟩)
      nk 0 [] 0 (fun _ => False) W none 0 (Nat.le_refl _) (by omega) ⟨rfl, fun h => absurd h (by omega)⟩ (fun a e => by cases e) ⟨fun _ h => h, hM, fun j p hj => absurd hj (by omega)⟩ (fun j q h => by simpa using h)
    refine this.mono ?_
    rintro e V' (⟨rfl, O', ⟨-, h1, h2⟩, -⟩ | ⟨rfl, O', ⟨h1, h2⟩, -⟩)
    · refine ⟨?_, h1.below⟩
      have : canP rs nr ss ns ks nk shk = false := by
        unfold canP
        rw [List.any_eq_false]
        intro p hp
        obtain ⟨j, hj⟩ := List.getElem?_of_mem hp
        have := h2 j p (by have := (List.getElem?_eq_some_iff.1 hj).1; omega) hj
        simpa using this
      rw [this]; rfl
    · exact ⟨by rw [h2]; rfl, h1⟩)
  obtain ⟨r, hr⟩ : ∃ r, canP rs nr ss ns ks nk shk = r := ⟨_, rfl⟩
  rw [hr] at kPl ⊢
  have HCI := Lib.hid HC
  clear HA HB HC ok en1 hr
  go_enter Tryz.func47, Tryz.ntmps47
  go_upto_region 1 with (fail)
  go_name_world X hX
  have BX := (al1 hX).1
  have HO0 : Hid (Blk X w.heap.size 40 #[.slice A nr c, .slice B ns d, .slice C nk f, .int .i64 shk]) := by rw [← hX]; exact Lib.hid (Blk.new w _ _)
  have q0 := HO0.out.cell
  have l0 := HO0.out.lt
  clear hX
  go_upto_region 2 with (go_at_call 34; refine (kOp.out X BX).mono ?_; rintro e w1 ⟨yb, Ah, ch, hs, rfl, hyb, hyd, hb1⟩; have HYD := Lib.hid hyd; have HB1 := Lib.hid (BX.trans (hb1.mono BX.size)); clear hb1 hyd q0 l0)
  obtain ⟨bx, hbx⟩ : ∃ x, w1.heap.size = x := ⟨_, rfl⟩
  go_name_world Y hY
  have hYB : Below w1.heap.size w1 Y := (al1 hY).1
  have HBX : Hid (Blk Y bx 81 #[.pointer (some ⟨yb, 0, none⟩)]) := by rw [← hY, ← hbx]; exact Lib.hid (Blk.new w1 _ _)
  have HBY := HB1.out.trans (hYB.mono HB1.out.size)
  have HCA : Hid (CaM w bx yb A nr c B ns d C nk f shk Ah ch hs (huL rs nr ss ns) ks Y) := Lib.hid ⟨HBY, HBX.out, HYD.out.later hYB, HCI.out.later HBY⟩
  have zX := BX.size
  rw [hbx]
  clear hY hYB hbx
  have q1 := HBX.out.cell
  have l1 := HBX.out.lt
  cases r
  all_goals
    go_wp2_with (go_at_call 75; refine (kPl.out bx yb Ah ch hs Y (by omega) HCA.out).mono ?_; rintro e w3 ⟨rfl, hb3⟩; have HB3 := Lib.hid hb3; clear hb3)
    go_ret
    exact ⟨rfl, HB3.out⟩

end Go.Proofs.YtcbeiadimchknaaGreat
