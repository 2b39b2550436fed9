/- served of the statements (layers 4, 7, 8). -/
import Derived.Test.YtcbeiadimchknaaGreatQm34
import Derived.Test.YtcbeiadimchknaaGreatQm22
import Derived.Test.YtcbeiadimchknaaGreatQm46
import Derived.Shelf.Abstract
import Derived.Laws.EntriesVeiled
import Derived.Handy
import Derived.Deep.DrawnRows
import Derived.Deep.DeepCutAuto
namespace Go.Proofs.YtcbeiadimchknaaGreat
open Go.RowKit
open Go.Sort (grow)
set_option linter.unusedVariables false
set_option linter.unusedSimpArgs false

set_option maxRecDepth 100000 in
set_option maxHeartbeats 1600000 in
theorem served_c (w : World) :
    Calls Tryz.prog 7 #[] w fun e w' => e = .returned (.bool true) ∧ Below w.heap.size w w' := by
  have hq : CbOk exQ7 := by unfold CbOk exQ7; decide
  have c1 : Hid (∀ (A : Option Addr) (W : World), SpsAt W A 7 exL7 → Calls Tryz.prog 23 #[.agg #[.slice A 7 7, .int .i64 40, .int .i64 1, .int .i64 0, .int .i64 2, .int .i64 1]] W fun e W' => e = .returned (.tuple #[.int .i64 2, .int .i64 0]) ∧ Below W.heap.size W W') := Lib.hid fun A W h => by
    have := fewest_c_q7 A 7 7 exQ7 exL7 W (by omega) hq h
    rw [ev_pl, ev_er] at this
    exact this
  have c2 : Hid (∀ (Ar Ad : Option Addr) (W : World), MemP Ar 2 Ad 2 exP W → Calls Tryz.prog 25 #[.agg #[.int .i64 12, .int .i64 9900, .int .i64 10200, .slice Ar 2 2, .slice Ad 2 2, .int .i64 0]] W fun e W' => e = .returned (.tuple #[.int .i64 4, .int .i64 0]) ∧ Below W.heap.size W W') := Lib.hid fun Ar Ad W h => by
    have := best4_c Ar 2 2 Ad 2 2 exP W (by omega) (by omega) h (fun _ => exP_len)
    rw [exP_bev, exP_bee] at this
    exact this
  clear hq
  go_enter Tryz.func7, Tryz.ntmps7
  go_upto_region 2 with (go_at_call 21; refine (Example4_c _).mono ?_; (rintro e w1 ⟨gr, gd, rfl, hne, hgr, hgd, hR, hD, hb1⟩); (have HR := Lib.hid hR); (have HD := Lib.hid hD); (have HB1 := Lib.hid hb1); clear hne hgr hgd hR hD hb1)
  go_name_world W hW
  have BW := (al2 hW).1
  have MM := Lib.hid (fun V (hV : Below W.heap.size W V) => (⟨sl_blk encR4_len ((HR.out.below BW HR.out.lt).below hV (HR.out.below BW HR.out.lt).lt) rfl rfl, sl_blk encE4_len ((HD.out.below BW HD.out.lt).below hV (HD.out.below BW HD.out.lt).lt) rfl rfl⟩ : MemP (some ⟨gr, 0, none⟩) 2 (some ⟨gd, 0, none⟩) 2 exP V))
  have HP1 : Hid (Blk W w1.heap.size 50 #[.int .i64 12, .int .i64 9900, .int .i64 10200, .slice (some ⟨gr, 0, none⟩) 2 2, .slice (some ⟨gd, 0, none⟩) 2 2, .int .i64 0]) := by rw [← hW]; exact Lib.hid ((Blk.new w1 _ _).alloc _)
  have HBW := Lib.hid (HB1.out.trans (BW.mono HB1.out.size))
  clear hW BW
  go_upto_region 3 with (first | (go_at_call 22; refine (Example8_c _).mono ?_; (rintro e w2 ⟨A, B, C, rfl, hA2, hB2, hC2, hb2⟩); (have HA2 := Lib.hid hA2); (have HB2 := Lib.hid hB2); (have HC2 := Lib.hid hC2); (have BB2 := Lib.hid hb2); clear hA2 hB2 hC2 hb2) | (go_at_call 13; refine (Fewest8_ex A B C w2 HA2.out HB2.out HC2.out).mono ?_; (rintro e w3 ⟨rfl, hb3⟩); (have BB3 := Lib.hid (BB2.out.trans (hb3.mono BB2.out.size))); clear hb3))
  go_upto_region 4 with (first | (go_at_call 24; refine (Example_c_q7 _).mono ?_; (rintro e w4 ⟨A7, rfl, h4, hb4⟩); (have H4 := Lib.hid h4); (have BB4 := Lib.hid (BB3.out.trans (hb4.mono BB3.out.size))); clear h4 hb4) | (go_at_call 23; refine (c1.out A7 w4 H4.out).mono ?_; (rintro e w5 ⟨rfl, hb5⟩); (have BB5 := Lib.hid (BB4.out.trans (hb5.mono BB4.out.size))); clear hb5))
  have HP5 := Lib.hid (HP1.out.below BB5.out HP1.out.lt)
  have q5 := HP5.out.cell
  have l5 := HP5.out.lt
  go_upto_region 5 with (go_at_call 25; refine (c2.out _ _ w5 (MM.out w5 BB5.out)).mono ?_; (rintro e w6 ⟨rfl, hb6⟩); (have BB6 := Lib.hid (HBW.out.trans ((BB5.out.trans (hb6.mono BB5.out.size)).mono HBW.out.size))); clear hb6 q5 l5)
  go_wp2_with fail
  go_ret
  exact ⟨rfl, BB6.out⟩

end Go.Proofs.YtcbeiadimchknaaGreat
