/- rods of stretch (layer 4): all lengths that the rods can have, handed to a function. -/
import Derived.Test.YtjlibgledkdfiaaFr4
import Derived.Deep.DrawnRows
import Derived.Deep.DeepCutAuto
import Derived.Deep.RegionLaw
namespace Go.Proofs.Ytjlibgledkdfiaa
open Go.RowKit
open Go.Sort (grow)
set_option linter.unusedVariables false

set_option maxRecDepth 100000 in
set_option maxHeartbeats 1600000 in
theorem rods_c (Ar : Option Addr) (nr cr : Nat) (Ad : Option Addr) (nd cd : Nat) (p : P4) (ok : Ok4 nr nd p) :
    IterO Try.prog 82 #[.agg #[.int .i64 p.ir, .int .i64 p.glo, .int .i64 p.ghi, .slice Ar nr cr, .slice Ad nd cd, .int .i64 p.wr]] #[] (MemP Ar nr Ad nd p) (ws4 p) (fun _ _ x args _ => args = encW4 x) := by
  intro l J Jx W hM hS _ hY h0
  have E : ItE Try.prog W.heap.size l (MemP Ar nr Ad nd p) (ws4 p) encW4 J Jx :=
    ⟨hM, fun K O K' O' k W1 W2 a b c => hS K O K' O' k W1 W2 a b c, fun K O k x W1 hK hO hx hJ => hY K O k x _ W1 hK hO hx hJ rfl⟩
  obtain ⟨xs, hxs⟩ : ∃ xs, ws4 p = xs := ⟨_, rfl⟩
  have hw : wo4 p.rods 0 nr ⟨0, 0, 0, 0⟩ = xs := by rw [← hxs, ← ok.lr]; rfl
  rw [hxs] at E ⊢
  have HC := Lib.hid (fun V (hV : Below W.heap.size W V) => from_c Ar nr cr Ad nd cd p ok l W.heap.size xs J Jx E nr 0 ⟨0, 0, 0, 0⟩ (fun _ => False) (fun _ => False) 0 V (by omega) (fun _ h => h.elim) (fun _ h => h) hV.size
    (hS _ _ _ _ _ W V (fun _ h => h.elim) h0 (.below0 hV (fun _ h => h))) (fun j y hy => by rw [hw] at hy; rwa [Nat.zero_add]))
  rw [hw, Nat.zero_add, show (((0 : Nat)) : Int) = 0 from rfl] at HC
  clear hM hS hY h0 E hw hxs
  show Calls Try.prog 82 #[.agg #[.int .i64 p.ir, .int .i64 p.glo, .int .i64 p.ghi, .slice Ar nr cr, .slice Ad nd cd, .int .i64 p.wr], .func (.yield l) #[] #[]] W _
  go_enter Try.func82, Try.ntmps82
  go_wp2_with (go_at_call 94; refine (HC.out _ (by (repeat first | with_reducible assumption | with_reducible exact Below.refl _ _ | (with_reducible refine Below.alloc ?_ ?side _; case side => (first | omega | (with_reducible exact Below.size (by assumption)) | (simp; done) | (simp; omega))) | (with_reducible refine Below.setCell ?_ ?side _; case side => (first | omega | (with_reducible exact Below.size (by assumption)) | (simp; done) | (simp; omega))) | with_reducible refine Below.drew ?_ | with_reducible refine below_drewN ?_ _ | (with_reducible refine below_step (by assumption) ?side ?_; case side => (first | omega | (with_reducible exact Below.size (by assumption)) | (simp; done) | (simp; omega)))))).mono ?_; rintro e w9 (⟨rfl, ⟨K3, k3, b3, hj9⟩, hk9⟩ | ⟨rfl, hx9⟩))
  · go_end0
    exact ⟨⟨_, rfl⟩, .inl ⟨K3, _, b3, hj9⟩⟩
  · go_end0
    exact ⟨⟨_, rfl⟩, .inr hx9⟩

end Go.Proofs.Ytjlibgledkdfiaa
