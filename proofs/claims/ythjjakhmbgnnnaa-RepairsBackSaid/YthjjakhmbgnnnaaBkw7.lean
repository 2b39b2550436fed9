/- back of the statements (layer 7): the numbers of some links, seen from the other end. -/
import Derived.Deep.DrawnRows
import Derived.Test.YthjjakhmbgnnnaaBk7
import Derived.Test.YthjjakhmbgnnnaaOwn
namespace Go.Proofs.Ythjjakhmbgnnnaa
open Go.RowKit
open Go.Sort (grow)
set_option linter.unusedVariables false

attribute [local go_sem ↓] Go.wp_at_zero Go.wp_at_succ
def BkRet (m : Nat) (xs : List Int) (w : World) (e : Ending) (w' : World) : Prop := ∃ A c, e = .returned (.slice A m c) ∧ IntsAt w' A m xs ∧ Below w.heap.size w w'
/-- the first j of them -/
def bkT (n : Nat) (l : List Int) (j : Nat) : List Int := (bkL n l).take j
theorem bkT_len {n m j : Nat} {l : List Int} (hl : l.length = m) (hj : j ≤ m) : (bkT n l j).length = j := by
  unfold bkT; rw [List.length_take, bk_len]; omega
theorem bkT_succ {n m j : Nat} {l : List Int} (hl : l.length = m) (hj : j < m) : bkT n l (j + 1) = bkT n l j ++ [(n : Int) - 1 - iAt l (m - 1 - j)] := by
  unfold bkT
  have h := iAt_bk (n := n) hl hj
  have hlen : j < (bkL n l).length := by rw [bk_len]; omega
  rw [List.take_add_one, List.getElem?_eq_getElem hlen]
  unfold iAt at h
  rw [List.getD_eq_getElem?_getD, List.getElem?_eq_getElem hlen] at h
  simp only [Option.toList_some]
  congr 2
theorem bkT_all {n m : Nat} {l : List Int} (hl : l.length = m) : bkT n l m = bkL n l := by
  unfold bkT; exact List.take_of_length_le (by rw [bk_len]; omega)
set_option maxRecDepth 100000 in
set_option maxHeartbeats 3200000 in
theorem back_c (A B : Option Addr) (n c m d : Nat) (q : Cb) (l : List Int) (w : World) (hn : n ≤ 40) (hm : m ≤ 40) (HX : IntsAt w B m l) (hb : ∀ j, j < m → 0 ≤ iAt l j ∧ iAt l j < n) :
    Calls Try.prog 43 #[.agg #[.slice A n c, .int .i64 q.need, .int .i64 q.gap, .int .i64 q.doubt, .int .i64 q.joins, .int .i64 q.least], .slice B m d] w (BkRet m (bkL n l) w) := by
  have HXI := Lib.hid HX
  have HLN := Lib.hid HX.1
  have HB := Lib.hid hb
  have hs0 : IntKind.i64.wrap ((m : Int) - 1) = (m : Int) - 1 := IntWalk.i64_in _ (by omega)
  have hs1 : IntKind.i64.wrap ((n : Int) - 1) = (n : Int) - 1 := IntWalk.i64_in _ (by omega)
  clear HX hb
  go_enter Try.func43, Try.ntmps43
  go_wp2
  obtain ⟨X, hX⟩ : ∃ X, w.alloc (.cells #[.slice A n c, .int .i64 q.need, .int .i64 q.gap, .int .i64 q.doubt, .int .i64 q.joins, .int .i64 q.least] 24) = X := ⟨_, rfl⟩
  rw [hX]
  have BX : Below w.heap.size w X := (al1 hX).1
  have zX : X.heap.size = w.heap.size + 1 := (al1 hX).2
  have P0 := Lib.hid (al1_0 hX).2.1
  have zw : w.heap.size ≤ X.heap.size := by omega
  have n0 : w.heap.size < X.heap.size := by omega
  clear hX
  have own0 := Lib.hid (World.ownsRow_nil X X.heap.size 3 1)
  go_loopw [5, 6] (fun v i (wr : World) => ∃ k j : Nat, k + j = m ∧ i = .int .i64 ((k : Int) - 1) ∧ Hid (wr.ownsRow X.heap.size 3 1 v j ((bkT n l j).flatMap encI)) ∧ Below X.heap.size X wr) (fun _ i _ => (intOf i + 1).toNat)
  case atStart => exact ⟨m, 0, by omega, rfl, own0, Below.refl _ _⟩
  case round =>
    obtain ⟨k, j, hkj, rfl, HO, hb⟩ := hrel
    have zb := hb.size
    have dd := fun i => (hb.cell (p := ⟨w.heap.size, i, none⟩) n0).trans (P0.out i)
    have nn : w.heap.size < wr.heap.size := by omega
    have hbw : Below w.heap.size w wr := BX.trans (hb.mono zw)
    cases k with
    | succ k =>
      have e1 : ((k + 1 : Nat) : Int) - 1 = (k : Int) := by omega
      rw [e1]
      have hkB : decide ((0 : Int) ≤ k) = true := by simp
      have hkm : k < m := by omega
      have HY := Lib.hid (bkT_succ (n := n) HLN.out (show j < m by omega))
      have hjk : m - 1 - j = k := by omega
      rw [hjk] at HY
      obtain ⟨b0, o0, rfl, hb0, y0⟩ := (HXI.out.later hbw).get hkm
      have hb0' : b0 < w.heap.size := by
        obtain ⟨b1, f1, e1, hb1, -⟩ := HXI.out.get hkm
        cases e1
        exact hb1
      have hv := HB.out k hkm
      obtain ⟨v, hvv⟩ : ∃ v, iAt l k = v := ⟨_, rfl⟩
      rw [hvv] at y0 hv HY
      have hs2 : IntKind.i64.wrap ((n : Int) - 1 - v) = (n : Int) - 1 - v := IntWalk.i64_in _ (by omega)
      have hs3 : IntKind.i64.wrap ((k : Int) - 1) = (k : Int) - 1 := IntWalk.i64_in _ (by omega)
      have hlen := bkT_len (n := n) HLN.out (show j ≤ m by omega)
      have hj40 : j < 40 := by omega
      clear hvv e1 hjk
      go_wp2_with fail
      go_region_held3 (fun w' => w'.cell? ⟨w.heap.size, 0, none⟩ = some (.slice A n c) ∧ w'.cell? ⟨b0, o0 + k, none⟩ = some (.int .i64 v))
        (first | exact ⟨dd 0, y0⟩ | exact ⟨(kb.cell (p := ⟨w.heap.size, 0, none⟩) n0).trans (dd 0), (kb.cell (p := ⟨b0, o0 + k, none⟩) (by show b0 < _; omega)).trans y0⟩ | go_keep)
        ((refine step_append_T _ (d := (0 : Int)) rfl (.tmp 14) (.tmp 24) _ rfl X.heap.size _ 1 8 intE encI_len encI_one u5 u5.ownBlock j (bkT n l j) rfl rfl ?_ _ 1 _ [(n : Int) - 1 - v] rfl ?_ ?_ ?_ ?_; (exact own_below HO.out (by (repeat first | with_reducible assumption | with_reducible exact Below.refl _ _ | (with_reducible refine Below.alloc ?_ ?side _; case side => (first | omega | (with_reducible exact Below.size (by assumption)) | (simp; done) | (simp; omega))) | (with_reducible refine Below.setCell ?_ ?side _; case side => (first | omega | (with_reducible exact Below.size (by assumption)) | (simp; done) | (simp; omega))) | with_reducible refine Below.drew ?_ | with_reducible refine below_drewN ?_ _ | (with_reducible refine below_step (by assumption) ?side ?_; case side => (first | omega | (with_reducible exact Below.size (by assumption)) | (simp; done) | (simp; omega)))))); (exact sl_new encI_len (by simp) rfl rfl); omega; ((simp only [World.size_alloc, World.size_drew]); omega); (intro v' w2 hown2 hg2 hat2; have kb : Below X.heap.size wr w2 := Below.grown (by (repeat first | with_reducible assumption | with_reducible exact Below.refl _ _ | (with_reducible refine Below.alloc ?_ ?side _; case side => (first | omega | (with_reducible exact Below.size (by assumption)) | (simp; done) | (simp; omega))) | (with_reducible refine Below.setCell ?_ ?side _; case side => (first | omega | (with_reducible exact Below.size (by assumption)) | (simp; done) | (simp; omega))) | with_reducible refine Below.drew ?_ | with_reducible refine below_drewN ?_ _ | (with_reducible refine below_step (by assumption) ?side ?_; case side => (first | omega | (with_reducible exact Below.size (by assumption)) | (simp; done) | (simp; omega))))) hg2 (by simp only [World.size_alloc, World.size_drew]; omega) (own_ge HO.out))))
      have e3 : Hid (w2.ownsRow X.heap.size 3 1 v' (j + 1) ((bkT n l (j + 1)).flatMap encI)) := by
        show World.ownsRow _ _ _ _ _ _ _
        rw [HY.out]; exact hown2
      have hb9 : Below X.heap.size X w2 := hb.trans kb
      clear hg2 hat2 hown2 own0
      go_wp2
      go_roundw
      case rel => exact ⟨k, j + 1, by omega, rfl, e3, hb9⟩
      case measure => simp [intOf]
    | zero =>
      obtain rfl : j = m := by omega
      have e1 : ((0 : Nat) : Int) - 1 = -1 := rfl
      rw [e1]
      obtain ⟨A9, c9, rfl, -, hsl⟩ := SlAt.of_own (d := (0 : Int)) encI_len HO.out (bkT_len HLN.out (Nat.le_refl _))
      rw [bkT_all HLN.out] at hsl
      have hsI := Lib.hid (ints_iff.2 hsl)
      clear hsl HO
      go_wp2
      go_ret
      exact ⟨A9, c9, rfl, hsI.out, hbw⟩

end Go.Proofs.Ythjjakhmbgnnnaa
