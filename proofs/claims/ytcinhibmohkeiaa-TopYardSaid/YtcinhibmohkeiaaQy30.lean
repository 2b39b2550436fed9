/- all (layer 3): all settings, handed to a function. -/
import Derived.Test.YtcinhibmohkeiaaQy29
import Derived.Deep.DrawnRows
import Derived.Deep.DeepCutAuto
import Derived.Deep.RegionLaw
namespace Go.Proofs.Ytcinhibmohkeiaa
open Go.RowKit
open Go.Sort (grow)
set_option linter.unusedVariables false
set_option linter.unusedSimpArgs false

set_option maxRecDepth 100000 in
set_option maxHeartbeats 1600000 in
theorem all_c (gm : Nat) (Al : Option Addr) (nl cl : Nat) (wa l0 l1 : Int) (Ab : Option Addr) (nb cb : Nat) (wrg ab : Int) (lv : List Lv) (bl : List Bal) (ok : OkM nl nb wa l0 l1 wrg ab lv bl) :
    IterO Try.prog 57 #[.pointer (some ⟨gm, 0, none⟩)] #[] (MemM gm 95 Al nl cl wa l0 l1 Ab nb cb wrg ab lv bl) (alS lv l0 l1 wa ab bl) (fun _ _ x args _ => args = encP x) := by
  intro l J Jx W hM hS _ hY h0
  have E : SetEnv Try.prog W.heap.size l (MemM gm 95 Al nl cl wa l0 l1 Ab nb cb wrg ab lv bl) (alS lv l0 l1 wa ab bl) J Jx :=
    ⟨hM, fun K O K' O' k W1 W2 a b c => hS K O K' O' k W1 W2 a b c, fun K O k x W1 hK hO hx hJ => hY K O k x _ W1 hK hO hx hJ rfl⟩
  obtain ⟨xs, hxs⟩ : ∃ xs, alS lv l0 l1 wa ab bl = xs := ⟨_, rfl⟩
  have hln : (stS lv l0 l1 0 nl ⟨0, 0, 0, 0, 1⟩).length = xs.length := by rw [← hxs]; unfold alS; rw [List.length_map, ok.ll]
  have hget : ∀ j y, (stS lv l0 l1 0 nl ⟨0, 0, 0, 0, 1⟩)[j]? = some y → xs[0 + j]? = some (y, wr3 wa ab bl y nb) := by
    intro j y hy
    rw [← hxs, Nat.zero_add]; unfold alS
    rw [List.getElem?_map, ok.ll, hy, ok.bb]; rfl
  rw [hxs] at E ⊢
  have HC := Lib.hid (set_c gm Al nl cl wa l0 l1 Ab nb cb wrg ab lv bl l W.heap.size xs J Jx E ok nl 0 ⟨0, 0, 0, 0, 1⟩ (fun _ => False) 0 W (by omega) ⟨by decide, by decide⟩ (fun _ h => h.elim) (Nat.le_refl _) h0 hget)
  rw [hln, Nat.zero_add] at HC
  clear hM hS hY h0 E hln hget hxs
  show Calls Try.prog 57 #[.pointer (some ⟨gm, 0, none⟩), .func (.yield l) #[] #[]] W _
  go_enter Try.func57, Try.ntmps57
  go_wp2_with (go_at_call 66; refine HC.out.mono ?_; rintro e w9 (⟨rfl, ⟨K3, k3, b3, hj9⟩, hk9⟩ | ⟨rfl, hx9⟩))
  · go_end0
    exact ⟨⟨_, rfl⟩, .inl ⟨K3, _, b3, hj9⟩⟩
  · go_end0
    exact ⟨⟨_, rfl⟩, .inr hx9⟩

end Go.Proofs.Ytcinhibmohkeiaa
