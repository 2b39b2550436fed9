/- ready of the statements (layer 4). -/
import Derived.Test.YtjlibgledkdfiaaFa4
import Derived.Shelf.Abstract
import Derived.Laws.EntriesVeiled
import Derived.Handy
import Derived.Deep.DrawnRows
import Derived.Deep.DeepCutAuto
namespace Go.Proofs.Ytjlibgledkdfiaa
open Go.RowKit
open Go.Sort (grow)
set_option linter.unusedVariables false

set_option maxRecDepth 100000 in
set_option maxHeartbeats 1600000 in
theorem ready4_c (Ar : Option Addr) (nr cr : Nat) (Ad : Option Addr) (nd cd : Nat) (p : P4) (w : World) (HM : MemP Ar nr Ad nd p w) :
    Calls Try.prog 12 #[.agg #[.int .i64 p.ir, .int .i64 p.glo, .int .i64 p.ghi, .slice Ar nr cr, .slice Ad nd cd, .int .i64 p.wr]] w fun e w' => e = .returned (.bool (ready4 p)) ∧ Below w.heap.size w w' := by
  have HF := Lib.hid (fun V (hV : Below w.heap.size w V) => far4_c Ar nr cr Ad nd cd p V (HM.later hV))
  have HCK := Lib.hid (fun (hf : far4 p = false) V (hV : Below w.heap.size w V) => refCheck4_c Ar nr cr Ad nd cd p V (by
    unfold far4 at hf
    have := HM.hr.1
    simp at hf
    omega) (by
    unfold far4 at hf
    have := HM.hd.1
    simp at hf
    omega) (HM.later hV))
  unfold ready4
  obtain ⟨f, hf⟩ : ∃ b, far4 p = b := ⟨_, rfl⟩
  obtain ⟨ck, hck⟩ : ∃ b, ck4 p = b := ⟨_, rfl⟩
  rw [hf] at HF HCK
  rw [hck] at HCK
  rw [hf, hck]
  clear hf hck HM
  obtain ⟨ir, glo, ghi, wrg, rods, res⟩ := p
  simp only at HF HCK ⊢
  cases f
  · cases ck
    · rw [show er4 false = 40 from rfl] at HCK
      have HC := Lib.hid (HCK.out rfl)
      go_enter Try.func12, Try.ntmps12
      go_upto_region 1 with (fail)
      go_name_world X hX
      have BX : Below w.heap.size w X := (al1 hX).1
      have q0 := (al1_0 hX).2.1
      have l0 := (al1_0 hX).1
      clear hX
      go_wp2_with (first | (go_at_call 27; refine (HF.out X BX).mono ?_; (rintro e w1 ⟨rfl, hb1⟩); (have q1 := fun j => (hb1.cell (p := ⟨w.heap.size, j, none⟩) l0).trans (q0 j)); (have l1 := Nat.lt_of_lt_of_le l0 hb1.size); (have B1 := BX.trans (hb1.mono BX.size)); clear hb1) | (go_at_call 29; refine (HC.out w1 B1).mono ?_; (rintro e w2 ⟨rfl, hb2⟩); (have B2 := B1.trans (hb2.mono B1.size)); clear hb2))
      go_ret
      exact ⟨rfl, B2⟩
    · rw [show er4 true = 0 from rfl] at HCK
      have HC := Lib.hid (HCK.out rfl)
      go_enter Try.func12, Try.ntmps12
      go_upto_region 1 with (fail)
      go_name_world X hX
      have BX : Below w.heap.size w X := (al1 hX).1
      have q0 := (al1_0 hX).2.1
      have l0 := (al1_0 hX).1
      clear hX
      go_wp2_with (first | (go_at_call 27; refine (HF.out X BX).mono ?_; (rintro e w1 ⟨rfl, hb1⟩); (have q1 := fun j => (hb1.cell (p := ⟨w.heap.size, j, none⟩) l0).trans (q0 j)); (have l1 := Nat.lt_of_lt_of_le l0 hb1.size); (have B1 := BX.trans (hb1.mono BX.size)); clear hb1) | (go_at_call 29; refine (HC.out w1 B1).mono ?_; (rintro e w2 ⟨rfl, hb2⟩); (have B2 := B1.trans (hb2.mono B1.size)); clear hb2))
      go_ret
      exact ⟨rfl, B2⟩
  · go_enter Try.func12, Try.ntmps12
    go_upto_region 1 with (fail)
    go_name_world X hX
    have BX : Below w.heap.size w X := (al1 hX).1
    have q0 := (al1_0 hX).2.1
    have l0 := (al1_0 hX).1
    clear hX HCK
    go_wp2_with (go_at_call 27; refine (HF.out X BX).mono ?_; (rintro e w1 ⟨rfl, hb1⟩); (have q1 := fun j => (hb1.cell (p := ⟨w.heap.size, j, none⟩) l0).trans (q0 j)); (have l1 := Nat.lt_of_lt_of_le l0 hb1.size); (have B1 := BX.trans (hb1.mono BX.size)); clear hb1)
    go_ret
    exact ⟨ret_bool (by simp), B1⟩

end Go.Proofs.Ytjlibgledkdfiaa
