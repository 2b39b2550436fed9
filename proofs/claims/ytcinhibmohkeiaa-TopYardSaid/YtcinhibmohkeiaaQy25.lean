/- ask of checks (layer 5), and truths as a value. -/
import Derived.Test.YtcinhibmohkeiaaQy24
import Derived.Shelf.Abstract
import Derived.Laws.EntriesVeiled
import Derived.Handy
import Derived.Deep.DrawnRows
import Derived.Deep.DeepCutAuto
import Derived.BigRegionIn
import Derived.Shelf.RegionOpen
namespace Go.Proofs.Ytcinhibmohkeiaa
open Go.RowKit
open Go.Sort (grow)
set_option linter.unusedVariables false
set_option linter.unusedSimpArgs false

attribute [local go_sem] Oper.semAt_some
set_option maxHeartbeats 800000 in
theorem truths5_c (A : Option Addr) (n c : Nat) (B : Option Addr) (m d : Nat) (wr : Int) (ms : List Sp) (cs : List Cm5) (w : World) (HM : SpsAt w A n ms) (HC : CmsAt w B m cs) :
    Calls Try.prog 54 #[.agg #[.slice A n c, .slice B m d, .int .i64 wr]] w fun e w' => ∃ yb, e = .returned (.func (.func 64) #[] #[.pointer (some ⟨yb, 0, none⟩)]) ∧ w.heap.size ≤ yb ∧ YaMem yb A n c B m d wr ms cs w' ∧ Below w.heap.size w w' := by
  have HMI := Lib.hid HM
  have HCI := Lib.hid HC
  clear HM HC
  go_enter Try.func54, Try.ntmps54
  go_upto_region 1 with (fail)
  go_name_world X hX
  have BX := Lib.hid (al1 hX).1
  have HY0 : Hid (YaMem w.heap.size A n c B m d wr ms cs X) := Lib.hid ⟨by rw [← hX]; exact Blk.new w _ _, HMI.out.later BX.out, HCI.out.later BX.out⟩
  clear hX
  go_wp2_with fail
  go_ret
  exact ⟨_, rfl, Nat.le_refl _, HY0.out, BX.out⟩
theorem KeepC.set' {B : Nat} {W W' : World} (h : KeepC B W W') {p : Addr} (hp : p.block < B) (u : Value) : KeepC B W (W'.setCell p u) := h.trans (KeepC.set hp u)
def askY (n m : Nat) (ms : List Sp) (cs : List Cm5) (wr : Int) (is : Bool) : Int := bif ckY n m ms cs wr then (bif is then (bif (trsY n m ms cs wr).isEmpty then 3 else 0) else 1) else 50
set_option maxRecDepth 100000 in
set_option maxHeartbeats 1600000 in
theorem ask5_c (A : Option Addr) (n c : Nat) (B : Option Addr) (m d : Nat) (wr : Int) (ms : List Sp) (cs : List Cm5) (is : Bool) (w : World) (hn : n ≤ 40) (hm : m ≤ 40) (HM : SpsAt w A n ms) (HC : CmsAt w B m cs) (hck : ckY n m ms cs wr = true) (his : is = true) :
    Calls Try.prog 30 #[.agg #[.slice A n c, .slice B m d, .int .i64 wr], .bool is] w fun e w' => e = .returned (.int .i64 (bif (trsY n m ms cs wr).isEmpty then 3 else 0)) ∧ Below w.heap.size w w' := by
  subst his
  have HCK : Hid (∀ V, Below w.heap.size w V → Calls Try.prog 26 #[.agg #[.slice A n c, .slice B m d, .int .i64 wr]] V fun e w' => e = .returned (.int .i64 0) ∧ Below V.heap.size V w') := Lib.hid (fun V hV => by have := check5_c A n c B m d wr ms cs V hn hm (HM.later hV) (HC.later hV); rw [hck] at this; exact this)
  have HTR := Lib.hid (fun V (hV : Below w.heap.size w V) => truths5_c A n c B m d wr ms cs V (HM.later hV) (HC.later hV))
  have HIT := Lib.hid (fun yb => truths1_c yb A n c B m d wr ms cs hck)
  obtain ⟨xs, hxs⟩ : ∃ xs, trsY n m ms cs wr = xs := ⟨_, rfl⟩
  rw [hxs] at HIT ⊢
  obtain ⟨z, hz⟩ : ∃ z : Int, (bif xs.isEmpty then 3 else 0) = z := ⟨_, rfl⟩
  rw [hz]
  have HZ := Lib.hid hz
  clear HM HC hck hxs hz
  refine (callsIn_wide (n := 6)).1 (callsIn_of_wp_marks Try.func30 rfl trivial ?_ rfl)
  simp only [Try.ntmps30, List.size_toArray, List.length_cons, List.length_nil, Nat.reduceAdd, Nat.reduceSub, Array.replicate_succ, Array.replicate_zero, List.push_toArray, List.append_toArray, List.nil_append, List.cons_append]
  have hb0 : Below w.heap.size w ((w.alloc (.cells #[.slice A n c, .slice B m d, .int .i64 wr] 51)).alloc (.cells #[.int .i64 0] 36)) := by (repeat first | with_reducible assumption | with_reducible exact Below.refl _ _ | (with_reducible refine Below.alloc ?_ ?side _; case side => (first | omega | (with_reducible exact Below.size (by assumption)) | (simp; done) | (simp; omega))) | (with_reducible refine Below.setCell ?_ ?side _; case side => (first | omega | (with_reducible exact Below.size (by assumption)) | (simp; done) | (simp; omega))) | with_reducible refine Below.drew ?_ | with_reducible refine below_drewN ?_ _ | (with_reducible refine below_step (by assumption) ?side ?_; case side => (first | omega | (with_reducible exact Below.size (by assumption)) | (simp; done) | (simp; omega))))
  have HB0 : Hid (Blk ((w.alloc (.cells #[.slice A n c, .slice B m d, .int .i64 wr] 51)).alloc (.cells #[.int .i64 0] 36)) (w.heap.size + 1) 36 #[.int .i64 0]) := by
    have := Blk.new (w.alloc (.cells #[.slice A n c, .slice B m d, .int .i64 wr] 51)) 36 #[.int .i64 0]
    rw [World.size_alloc] at this
    exact Lib.hid this
  have HY0 : Hid (Blk ((w.alloc (.cells #[.slice A n c, .slice B m d, .int .i64 wr] 51)).alloc (.cells #[.int .i64 0] 36)) w.heap.size 51 #[.slice A n c, .slice B m d, .int .i64 wr]) := Lib.hid ((Blk.new w _ _).alloc _)
  gi_wp2_with (refine ⟨trivial, ?_⟩; gi_at_call 26; refine callsIn_wide.2 ((HCK.out _ hb0).mono ?_); rintro e w1 ⟨rfl, hb1⟩; have k0 := HY0.out.below hb1 HY0.out.lt; have k1 := HB0.out.below hb1 HB0.out.lt; have q0 := k0.cell; have n0 := k0.lt)
  have HB1 := Lib.hid k1
  have hbw1 : Below w.heap.size w w1 := hb0.trans (hb1.mono (by simp only [World.size_alloc]; omega))
  clear q0 n0 k1 k0 hb1 hb0
  refine ⟨trivial, callsIn_wide.2 ((HTR.out w1 hbw1).mono ?_)⟩
  rintro e w2 ⟨yb, rfl, hyb, hm2, hb2⟩
  have HM2 := Lib.hid hm2
  have hbw2 : Below w.heap.size w w2 := hbw1.trans (hb2.mono hbw1.size)
  have HB2 := Lib.hid (HB1.out.below hb2 HB1.out.lt)
  have z2 := hbw2.size
  have n2 := HB2.out.lt
  clear hm2 hb2
  gi_wp2
  have en := enters_of Try.func64 (by kernel_rfl) rfl
  refine wpIn_rangeT (gf := 64) (fst := #[]) (lb := #[.pointer (some ⟨yb, 0, none⟩)]) rfl en (HIT.out yb) (fun s args h => by rw [show args = _ from h]; rfl)
    (fun k W => k = 0 ∧ Below w.heap.size w W ∧ Blk W (w.heap.size + 1) 36 #[.int .i64 0] ∧ YaMem yb A n c B m d wr ms cs W)
    (fun c W => c = .ret ∧ z = 0 ∧ Below w.heap.size w W ∧ Blk W (w.heap.size + 1) 36 #[.int .i64 0]) ?hI ?hIx ?hmem ?h0 ?hround ?hdone ?hstop
  case hI => exact fun k W1 W2 ⟨h1, h2, h3, h4⟩ ht => ⟨h1, ht.below z2 h2.size h2, ht.blk h3, h4.tame ht⟩
  case hIx => exact fun c W1 W2 ⟨h1, h2, h3, h4⟩ ht => ⟨h1, h2, ht.below z2 h3.size h3, ht.blk h4⟩
  case hmem => exact fun k W1 h => h.2.2.2
  case h0 => exact ⟨rfl, hbw2, HB2.out, HM2.out⟩
  case hround =>
    rintro l k s args W1 hl hz1 hx ⟨rfl, hW, hk, hy⟩ rfl
    have hz0 : z = 0 := by
      rw [← HZ.out]
      cases e : xs with
      | nil => rw [e] at hx; simp at hx
      | cons => rfl
    have HZ0 := Lib.hid hz0
    clear hx hy hz0
    gi_wp2
    refine ⟨KeepC.refl _ _, fun W2 ht => ?_⟩
    have k2 := ht.blk hk
    have b2 := ht.below z2 hW.size hW
    have q2 := k2.cell 0
    have f2 := k2.frozen 0
    have l2 := k2.lt
    have HK2 := Lib.hid k2
    clear hk hW ht k2
    gi_wp2
    refine ⟨KeepC.set (by simpa using n2) _, rfl, HZ0.out, Below.setCell (p := ⟨w.heap.size + 1, 0, none⟩) b2 (by show _ ≤ w.heap.size + 1; omega) _, ?_⟩
    exact HK2.out.set_ 0 (.int .i64 0)
  case hdone =>
    rintro D W hD ⟨h, hW, hk, -⟩ hK
    have hz3 : z = 3 := by rw [← HZ.out, List.eq_nil_of_length_eq_zero h]; rfl
    have HK := Lib.hid hk
    have q3 := hk.cell 0
    have f3 := hk.frozen 0
    have l3 := hk.lt
    clear h hk
    gi_wp2
    refine leave_mark (v := .int .i64 3) ?_ (fun W' ht => ?_) (fun W' ht => ⟨by rw [hz3], ht.below (by omega) (by simp; exact hW.size) (Below.setCell (p := ⟨w.heap.size + 1, 0, none⟩) hW (by show _ ≤ w.heap.size + 1; omega) _)⟩)
    · exact (Below.heap_setCell W _ _ D (by show D ≠ w.heap.size + 1; omega)).trans hK
    · have c3 := (ht.blk (HK.out.set_ 0 (.int .i64 3))).cell 0
      simp [results, Try.results30, go_sem, c3]
  case hstop =>
    rintro D c W hD ⟨rfl, hz0, hW, hk⟩ hK
    have HK := Lib.hid hk
    clear hk
    gi_wp2
    refine leave_mark (v := .int .i64 0) hK (fun W' ht => ?_) (fun W' ht => ⟨by rw [hz0], ht.below (by omega) hW.size hW⟩)
    have c3 := (ht.blk HK.out).cell 0
    simp [results, Try.results30, go_sem, c3]

end Go.Proofs.Ytcinhibmohkeiaa
