/- served of the statements (layers 4, 7, 8); TopPieces: what the calls give for the order that the pieces make. -/
import Derived.Test.YtcbeiadimchknaaGreatQp18
import Derived.Test.YtcbeiadimchknaaGreatQp45
import Derived.Test.YtcbeiadimchknaaGreatQp32
import Derived.Shelf.Abstract
import Derived.Laws.EntriesVeiled
import Derived.Handy
import Derived.Deep.DrawnRows
import Derived.Deep.DeepCutAuto
import Derived.Test.YtcbeiadimchknaaGreatQp33
import Derived.Test.YtcbeiadimchknaaGreatQp46
import Derived.Test.YtcbeiadimchknaaGreatQp15
import Derived.Test.YtcbeiadimchknaaGreatQp19
namespace Go.Proofs.YtcbeiadimchknaaGreat
open Go.RowKit
open Go.Sort (grow)
set_option linter.unusedVariables false
set_option linter.unusedSimpArgs false

set_option maxRecDepth 100000 in
set_option maxHeartbeats 1600000 in
theorem served_c (w : World) :
    Calls Tryz.prog 7 #[] w fun e w' => e = .returned (.bool true) ∧ Below w.heap.size w w' := by
  have hq : CbOk exQ7 := by unfold CbOk exQ7; decide
  have c1 : Hid (∀ (A : Option Addr) (W : World), SpsAt W A 7 exL7 → Calls Tryz.prog 23 #[.agg #[.slice A 7 7, .int .i64 40, .int .i64 1, .int .i64 0, .int .i64 2, .int .i64 1]] W fun e W' => e = .returned (.tuple #[.int .i64 2, .int .i64 0]) ∧ Below W.heap.size W W') := Lib.hid fun A W h => by
    have := fewest_c_q7 A 7 7 exQ7 exL7 W (by omega) hq h
    rw [ev_pl, ev_er] at this
    exact this
  have c2 : Hid (∀ (Ar Ad : Option Addr) (W : World), MemP Ar 2 Ad 2 exP W → Calls Tryz.prog 25 #[.agg #[.int .i64 12, .int .i64 9900, .int .i64 10200, .slice Ar 2 2, .slice Ad 2 2, .int .i64 0]] W fun e W' => e = .returned (.tuple #[.int .i64 4, .int .i64 0]) ∧ Below W.heap.size W W') := Lib.hid fun Ar Ad W h => by
    have := best4_c Ar 2 2 Ad 2 2 exP W (by omega) (by omega) h (fun _ => exP_len)
    rw [exP_bev, exP_bee] at this
    exact this
  clear hq
  go_enter Tryz.func7, Tryz.ntmps7
  go_upto_region 2 with (go_at_call 21; refine (Example4_c _).mono ?_; (rintro e w1 ⟨gr, gd, rfl, hne, hgr, hgd, hR, hD, hb1⟩); (have HR := Lib.hid hR); (have HD := Lib.hid hD); (have HB1 := Lib.hid hb1); clear hne hgr hgd hR hD hb1)
  go_name_world W hW
  have BW := (al2 hW).1
  have MM := Lib.hid (fun V (hV : Below W.heap.size W V) => (⟨sl_blk encR4_len ((HR.out.below BW HR.out.lt).below hV (HR.out.below BW HR.out.lt).lt) rfl rfl, sl_blk encE4_len ((HD.out.below BW HD.out.lt).below hV (HD.out.below BW HD.out.lt).lt) rfl rfl⟩ : MemP (some ⟨gr, 0, none⟩) 2 (some ⟨gd, 0, none⟩) 2 exP V))
  have HP1 : Hid (Blk W w1.heap.size 50 #[.int .i64 12, .int .i64 9900, .int .i64 10200, .slice (some ⟨gr, 0, none⟩) 2 2, .slice (some ⟨gd, 0, none⟩) 2 2, .int .i64 0]) := by rw [← hW]; exact Lib.hid ((Blk.new w1 _ _).alloc _)
  have HBW := Lib.hid (HB1.out.trans (BW.mono HB1.out.size))
  clear hW BW
  go_upto_region 3 with (first | (go_at_call 22; refine (Example8_c _).mono ?_; (rintro e w2 ⟨A, B, C, rfl, hA2, hB2, hC2, hb2⟩); (have HA2 := Lib.hid hA2); (have HB2 := Lib.hid hB2); (have HC2 := Lib.hid hC2); (have BB2 := Lib.hid hb2); clear hA2 hB2 hC2 hb2) | (go_at_call 13; refine (Fewest8_ex A B C w2 HA2.out HB2.out HC2.out).mono ?_; (rintro e w3 ⟨rfl, hb3⟩); (have BB3 := Lib.hid (BB2.out.trans (hb3.mono BB2.out.size))); clear hb3))
  go_upto_region 4 with (first | (go_at_call 24; refine (Example_c_q7 _).mono ?_; (rintro e w4 ⟨A7, rfl, h4, hb4⟩); (have H4 := Lib.hid h4); (have BB4 := Lib.hid (BB3.out.trans (hb4.mono BB3.out.size))); clear h4 hb4) | (go_at_call 23; refine (c1.out A7 w4 H4.out).mono ?_; (rintro e w5 ⟨rfl, hb5⟩); (have BB5 := Lib.hid (BB4.out.trans (hb5.mono BB4.out.size))); clear hb5))
  have HP5 := Lib.hid (HP1.out.below BB5.out HP1.out.lt)
  have q5 := HP5.out.cell
  have l5 := HP5.out.lt
  go_upto_region 5 with (go_at_call 25; refine (c2.out _ _ w5 (MM.out w5 BB5.out)).mono ?_; (rintro e w6 ⟨rfl, hb6⟩); (have BB6 := Lib.hid (HBW.out.trans ((BB5.out.trans (hb6.mono BB5.out.size)).mono HBW.out.size))); clear hb6 q5 l5)
  go_wp2_with fail
  go_ret
  exact ⟨rfl, BB6.out⟩

end Go.Proofs.YtcbeiadimchknaaGreat

namespace Go.Proofs.YtcbeiadimchknaaGreat
open Go.RowKit
open Go.Sort (grow)
set_option linter.unusedVariables false
set_option linter.unusedSimpArgs false

/-- the memory of an order of one ship that needs a length of the size 1 -/
def OrdAt (W : World) (A B C : Option Addr) (k : Nat) (long : Int) (ns : List Int) : Prop := RtsAt W A 1 [⟨0, 1, long⟩] ∧ SpsAt W B 1 [⟨5, 5⟩] ∧ SksAt W C k (pcK ns)
theorem OrdAt.later {W W' : World} {A B C : Option Addr} {k : Nat} {long : Int} {ns : List Int} (h : OrdAt W A B C k long ns) (hb : Below W.heap.size W W') : OrdAt W' A B C k long ns := ⟨h.1.later hb, h.2.1.later hb, h.2.2.later hb⟩
/-- the pieces, a shackle, the length that they make -/
structure PcOk (ns : List Int) (k : Nat) (shk long : Int) : Prop where
  hl : ns.length = k
  k1 : 1 ≤ k
  k7 : k ≤ 7
  h1 : ∀ i, i < ns.length → 1 ≤ iAt ns i ∧ iAt ns i ≤ 999
  hs : 0 ≤ shk ∧ shk ≤ 9
  hx : long = smK ns k + shk * ((k - 1 : Nat) : Int)
  hy : 0 ≤ long ∧ long ≤ 900
section
variable {ns : List Int} {k : Nat} {shk long : Int}
theorem PcOk.ok (h : PcOk ns k shk long) {x : Int} (hx : 0 ≤ x ∧ x ≤ 1) : Ok8 1 1 k [⟨0, 1, long + x⟩] [⟨5, 5⟩] (pcK ns) shk := by
  have := h.hy
  exact pc_ok h.hs (by omega) h.hl h.k7 fun i hi => h.h1 i (by rw [h.hl]; exact hi)
theorem PcOk.ok0 (h : PcOk ns k shk long) : Ok8 1 1 k [⟨0, 1, long⟩] [⟨5, 5⟩] (pcK ns) shk := by
  have := h.ok (x := 0) (by omega)
  rwa [Int.add_zero] at this
theorem alone8p_c (A : Option Addr) (c : Nat) (ns : List Int) (k : Nat) (shk long : Int) (w : World) (hk : k ≤ 7) (HA : SpsAt w A k (dbS ns)) :
    Calls Tryz.prog 11 #[.int .i64 long, .int .i64 shk, .slice A k c] w fun e w' => ∃ A B C c', e = .returned (.agg #[.slice A 1 1, .slice B 1 1, .slice C k c', .int .i64 shk]) ∧ OrdAt w' A B C k long ns ∧ Below w.heap.size w w' := by
  refine (alone_c A k c (dbS ns) long shk w hk HA).mono ?_
  rintro e w' ⟨A1, A2, A3, c3, e, h1, h2, h3, -, -, -, hb⟩
  rw [dbS_sk] at h3
  exact ⟨A1, A2, A3, c3, e, ⟨h1, h2, h3⟩, hb⟩
theorem zer_len {k : Nat} : (List.replicate k (0 : Int)).length = k := List.length_replicate
theorem makes8p_c (h : PcOk ns k shk long) (A B C : Option Addr) (c' : Nat) (P : Option Addr) (cp : Nat) (w : World) (HO : OrdAt w A B C k long ns) (HP : IntsAt w P k (List.replicate k 0)) :
    Calls Tryz.prog 12 #[.agg #[.slice A 1 1, .slice B 1 1, .slice C k c', .int .i64 shk], .slice P k cp] w fun e w' => e = .returned (.tuple #[.int .i64 1, .int .i64 0]) ∧ Below w.heap.size w w' := by
  have := Makes8_c A 1 1 B 1 1 C k c' shk [⟨0, 1, long⟩] [⟨5, 5⟩] (pcK ns) P cp (List.replicate k 0) w HO.1 HO.2.1 HO.2.2 HP h.ok0 (fun i hi => by rw [rep_at]; decide)
  rw [one_hu, pc_kn (x := 0) h.hl (by have := h.k1; omega) h.hs.1 (fun i hi => (h.h1 i hi).1) (by rw [h.hx]; simp), if_pos ⟨(mnK_all k).2 fun i _ => rep_at, rfl⟩] at this
  exact this
theorem makes8q_c (h : PcOk ns k shk long) (A B C : Option Addr) (c' : Nat) (P : Option Addr) (cp : Nat) (w : World) (HO : OrdAt w A B C k (long + 1) ns) (HP : IntsAt w P k (List.replicate k 0)) :
    Calls Tryz.prog 12 #[.agg #[.slice A 1 1, .slice B 1 1, .slice C k c', .int .i64 shk], .slice P k cp] w fun e w' => e = .returned (.tuple #[.int .i64 2, .int .i64 0]) ∧ Below w.heap.size w w' := by
  have := Makes8_c A 1 1 B 1 1 C k c' shk [⟨0, 1, long + 1⟩] [⟨5, 5⟩] (pcK ns) P cp (List.replicate k 0) w HO.1 HO.2.1 HO.2.2 HP (h.ok (by omega)) (fun i hi => by rw [rep_at]; decide)
  rw [one_hu, pc_kn (x := 1) h.hl (by have := h.k1; omega) h.hs.1 (fun i hi => (h.h1 i hi).1) (by rw [h.hx]; simp), if_neg (by rintro ⟨-, h⟩; cases h)] at this
  exact this
theorem fewest8p_c (h : PcOk ns k shk long) (A B C : Option Addr) (c' : Nat) (w : World) (HO : OrdAt w A B C k long ns) :
    Calls Tryz.prog 13 #[.agg #[.slice A 1 1, .slice B 1 1, .slice C k c', .int .i64 shk]] w fun e w' => e = .returned (.tuple #[.int .i64 k, .int .i64 0]) ∧ Below w.heap.size w w' := by
  have hk : 0 < k := h.k1
  obtain ⟨f1, f2, f3⟩ := pc_few h.hl hk h.hs.1 (fun i hi => (h.h1 i hi).1) h.hx
  have := Fewest8_c A 1 1 B 1 1 C k c' shk [⟨0, 1, long⟩] [⟨5, 5⟩] (pcK ns) w hk HO.1 HO.2.1 HO.2.2 h.ok0 _ (by rw [one_hu])
  unfold fwP fwE at this
  rw [f1] at this
  simp only [cond_true] at this
  rw [f2, zer_len, zer_us k k (Nat.le_refl _)] at this
  exact this
theorem fewest8q_c (h : PcOk ns k shk long) (A B C : Option Addr) (c' : Nat) (w : World) (HO : OrdAt w A B C k (long + 1) ns) :
    Calls Tryz.prog 13 #[.agg #[.slice A 1 1, .slice B 1 1, .slice C k c', .int .i64 shk]] w fun e w' => e = .returned (.tuple #[.int .i64 0, .int .i64 3]) ∧ Below w.heap.size w w' := by
  have hk : 0 < k := h.k1
  have hf := pc_none (long := long + 1) h.hl hk h.hs.1 (fun i hi => (h.h1 i hi).1) (by rw [h.hx])
  have := Fewest8_c A 1 1 B 1 1 C k c' shk [⟨0, 1, long + 1⟩] [⟨5, 5⟩] (pcK ns) w hk HO.1 HO.2.1 HO.2.2 (h.ok (by omega)) fw0 (by rw [one_hu, hf])
  exact this
theorem needed8p_c (h : PcOk ns k shk long) (A B C : Option Addr) (c' : Nat) (w : World) (HO : OrdAt w A B C k long ns) :
    Calls Tryz.prog 14 #[.agg #[.slice A 1 1, .slice B 1 1, .slice C k c', .int .i64 shk]] w fun e w' => ∃ v c', e = .returned (.tuple #[.slice v k c', .int .i64 0]) ∧ IntsAt w' v k (upN k) ∧ Below w.heap.size w w' := by
  have hk : 0 < k := h.k1
  obtain ⟨f1, f2, f3⟩ := pc_few h.hl hk h.hs.1 (fun i hi => (h.h1 i hi).1) h.hx
  have := Needed8_c A 1 1 B 1 1 C k c' shk [⟨0, 1, long⟩] [⟨5, 5⟩] (pcK ns) w hk HO.1 HO.2.1 HO.2.2 h.ok0 _ (by rw [one_hu]) f1 (upN k) upN_up (fun x => by rw [f3]; exact upN_mem)
  rw [upN_len] at this
  exact this
theorem same8p_c (A B : Option Addr) (c d : Nat) (w : World) (hk : k ≤ 7) (HX : IntsAt w A k (upN k)) (HY : IntsAt w B k (upN k)) :
    Calls Tryz.prog 15 #[.slice A k c, .slice B k d] w fun e w' => e = .returned (.bool true) ∧ Below w.heap.size w w' := by
  have := same4_c A B k k c d (upN k) (upN k) w (by omega) (by omega) HX HY
  rw [show (k == k && allN k fun i => iAt (upN k) i == iAt (upN k) i) = true by simp [allN_iff]] at this
  exact this
end
set_option maxHeartbeats 400000 in
theorem refIn8_c (A : Option Addr) (n c : Nat) (x : Int) (xs : List Int) (w : World) (hn : n ≤ 100000) (HX : IntsAt w A n xs) :
    Calls Tryz.prog 9 #[.slice A n c, .int .i64 x] w fun e w' => e = .returned (.bool (anyN n fun k => iAt xs k == x)) ∧ w = w' := by
  go_enter Tryz.func9, Tryz.ntmps9
  go_wp2
  go_loopw [5] (fun i (wr : World) => ∃ k : Nat, k ≤ n ∧ i = .int .i64 k ∧ Hid (∀ j, j < k → (iAt xs j == x) = false) ∧ wr = w) (fun i _ => n - (intOf i).toNat)
  case atStart => exact ⟨0, by omega, rfl, fun j hj => absurd hj (by omega), rfl⟩
  case round =>
    obtain ⟨k, hk, rfl, H, rfl⟩ := hrel
    by_cases hlt : k < n
    · obtain ⟨b, o, rfl, hb, x0⟩ := HX.get hlt
      have hB : decide ((k : Int) < n) = true := by simp; omega
      cases e1 : (iAt xs k == x)
      · go_wp2
        go_roundw
        case rel => exact ⟨k + 1, by omega, by go_num, fun j hj => by
          rcases Nat.lt_succ_iff_lt_or_eq.1 hj with h | rfl
          · exact H.out j h
          · exact e1, trivial⟩
        case measure => simp [intOf]; omega
      · have hA := anyN_yes (p := fun k => iAt xs k == x) hlt e1
        go_wp2
        go_ret
        exact ⟨ret_bool hA.symm, rfl⟩
    · obtain rfl : n = k := by omega
      have hA := anyN_no (p := fun k => iAt xs k == x) H.out
      have hB : decide (((n : Nat) : Int) < n) = false := by simp
      clear H
      go_wp2
      go_ret
      exact ⟨ret_bool hA.symm, rfl⟩
theorem cut8_c (y n : Nat) (hn : n ≤ 40) (B : Option Addr) (m d : Nat) (L : List Int) (hm : (memN y n).length = m) (hL : ints (memN y n) = L) (k : Nat) (hk : k < n) (V : World) (h : IntsAt V B m L) :
    Calls Tryz.prog 9 #[.slice B m d, .int .i64 k] V fun e w' => e = .returned (.bool (y.testBit k)) ∧ V = w' := by
  have hle := memN_le8 (y := y) (n := n)
  have := refIn8_c B m d k L V (by omega) h
  rw [← hm, ← hL, mem_any, decide_eq_true hk, Bool.true_and] at this
  rw [← hm]
  exact this
theorem sp_info8 : (Tryz.prog.info? 34).map (fun i => (i.zero, i.size, i.bytes)) = some (some (.agg #[.int .i64 0, .int .i64 0]), 2, 16) := by kernel_rfl
theorem spE8 : ElemT Tryz.prog 22 34 2 16 := by
  obtain ⟨i0, hi0, hz0, hz1, hz2⟩ := info_parts sp_info8
  exact ⟨Tryz.underlying22, ⟨i0, _, hi0, hz0, hz1, hz2, rfl⟩, by omega, by omega⟩

end Go.Proofs.YtcbeiadimchknaaGreat
