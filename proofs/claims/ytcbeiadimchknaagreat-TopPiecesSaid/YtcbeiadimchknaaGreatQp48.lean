/- From a walk to the statement, for laws that leave the memory that was there as it was: the arguments opened, the arguments read again. -/
import Derived.ReadAgain
import Derived.ChangeSame
import Derived.Deep.Slices
import Derived.Lib.SmallJoins
import Derived.Deep.Frames
import Derived.JoinedOf
import Derived.JoinedAt
import Derived.RowKit3
import Derived.OpenShut
import Derived.ProofKit
import Derived.RowKit2
import Derived.Test.YtcbeiadimchknaaGreatRows
import Derived.Test.YtcbeiadimchknaaGreatQp02
namespace Go.Proofs.YtcbeiadimchknaaGreat
open Go.RowKit Go.ChangeShapes Go.WideShapes Go.ChangeAt Go.Deep Go.Joins
open Go.Sort (grow)
set_option linter.unusedVariables false
set_option linter.unusedSimpArgs false

theorem jn_own : ownKnob Tryz.prog.godebug = none := by kernel_rfl
theorem jn_kids : Kids Tryz.prog (· < Tryz.prog.types.size) := kids_rows (by kernel_rfl) (by kernel_rfl)
theorem jn_full : ∀ t e, t < Tryz.prog.types.size → Tryz.prog.underlying t = some (.slice e) → 0 < Tryz.prog.cellsOf e := slices_full_of Tryz.prog (by kernel_rfl)

section
variable {H : Type} {enc : TypeId × Value → H} {P : Program} {w w' : World} {base : Nat} {spare : Nat → Bool} {held : Bool}
theorem trodAll_carry : ∀ {ts : List TypeId} {vs : List Value} {ds : List (DataW H)} {ps : List MemPlace}, DataW.TrodAll enc P w base spare held ts vs ds ps → (∀ p ∈ ps, w.sameAt w' p) → DataW.TrodAll enc P w' base spare held ts vs ds ps
  | [], [], [], _, h, _ => h
  | _ :: _, _ :: _, _ :: _, _, ⟨p, q, ⟨n, hn⟩, h2, e⟩, hs => ⟨p, q, ⟨n, DataW.trod_carry n _ _ _ hn (fun x hx => hs x (by rw [e]; exact List.mem_append_left _ hx))⟩, trodAll_carry h2 (fun x hx => hs x (by rw [e]; exact List.mem_append_right _ hx)), e⟩

/-- the last step of a law -/
theorem law_post {f : Func} {s : ChangeSpec} {tb : TypeId} {W W' : World} {args : Array Value} {ds : List (DataW H)} {before : List MemPlace} (K : Kids P (· < P.types.size)) (hz : ∀ t e, t < P.types.size → P.underlying t = some (.slice e) → 0 < P.cellsOf e)
    (hT : ∀ t ∈ f.params.toList, t < P.types.size) (hr : f.resultTypes = #[tb]) (htb : P.underlying tb = some .bool) (hv : s.vars = [])
    (h1 : (s.fn H ds).results = [.lit (.bool true)]) (h2 : (s.fn H ds).args = ds) (h3 : (s.fn H ds).vars = [])
    (hW : DataW.Whole enc P f.params.toList s.vars false W args.toList ds [] before) (hb : Below W.heap.size W W') : s.post enc P f false true false false W args (.bool true) W' := by
  have hW' := hW
  obtain ⟨p, q, hA, hV, rfl, _, _⟩ := hW
  rw [hv] at hV
  obtain ⟨-, rfl⟩ := trodVars_none hV
  have hlt := hA.lt
  refine ⟨ds, [], p ++ [], [], p, [], hW', ?_, ?_, ?_, ?_, fun h => by cases h⟩
  · rw [List.append_nil, h1, hr]
    exact trodAll_mk1 (shut_bool htb true)
  · rw [List.append_nil, h2]
    refine trodAll_carry (DataW.TrodAll.respare K hz hT hA (fun x hx => by simpa using hlt x hx)) (fun x hx => ?_)
    have hx' := hlt x hx
    cases x with
    | cell b o => exact World.cell?_of_block (a := ⟨b, o, none⟩) (hb.block b hx')
    | map b => exact hb.block b hx'
  · rw [List.append_nil, h3, hv]; rfl
  · exact World.keptBut_mono (fun _ h => h.elim) (hb.frame (fun _ => False))

/-- a slice that came in reads as a list -/
theorem open_sl {α : Type} (enc' : α → List Value) (size : Nat) (d : α) {t e : TypeId} {fuel : Nat} {cs : List Value} {x : DataW H × List MemPlace} (ht : P.underlying t = some (.slice e)) (hC : P.cellsOf e = size) (hsz : 0 < size) (hlen : ∀ a, (enc' a).length = size)
    (hE : ∀ n cs x, DataW.trod enc P w base spare held n e cs = some x → ∃ a : α, cs = enc' a) (h : DataW.trod enc P w base spare held fuel t cs = some x) :
    ∃ A n c xs, cs = [.slice A n c] ∧ n ≤ maxLen ∧ SlAt enc' size d w A n xs := by
  rcases open_slice ht h with ⟨rfl, -⟩ | ⟨a, len, cap, m, n, D, Pl, rfl, hb, hl, hm, hmm, -, hi⟩
  · exact ⟨none, 0, 0, [], rfl, Nat.zero_le _, rfl, fun h => absurd h (by omega)⟩
  · have hlm : len ≤ m := by rw [hmm]; split <;> omega
    have hi' : ∀ i, i < len → ∃ y : α, ∀ j u, (enc' y)[j]? = some u → w.cell? (a.add (i * size + j)) = some u := by
      intro i hilt
      obtain ⟨cs', hc, htr⟩ := hi i (by omega)
      obtain ⟨y, rfl⟩ := hE _ _ _ htr
      refine ⟨y, fun j u hu => ?_⟩
      obtain ⟨_, hcl, hat⟩ := World.cells?_some hc
      have hj : j < size := by
        have := (List.getElem?_eq_some_iff.1 hu).1
        rwa [hlen] at this
      have h1 := hat j (by rw [hC]; exact hj)
      rw [hC, add_of_add, hu] at h1
      exact h1
    have hf : ∃ f : Nat → α, ∀ i, i < len → ∀ j u, (enc' (f i))[j]? = some u → w.cell? (a.add (i * size + j)) = some u := by
      refine ⟨fun i => if h : i < len then Classical.choose (hi' i h) else d, fun i hilt => ?_⟩
      simp only [dif_pos hilt]
      exact Classical.choose_spec (hi' i hilt)
    obtain ⟨f, hf⟩ := hf
    refine ⟨some a, len, cap, (List.range len).map f, rfl, by omega, by simp, fun hn => ?_⟩
    obtain ⟨b, off, spot⟩ := a
    have hl0 : 0 < (enc' (f 0)).length := by rw [hlen]; exact hsz
    have h0 := hf 0 hn 0 _ (List.getElem?_eq_getElem hl0)
    have hspot : spot = none := by simpa [Addr.add] using World.cell?_spot h0
    subst hspot
    refine ⟨b, off, rfl, ?_, fun k hk j u hu => ?_⟩
    · have := World.block_lt_of_cell? w _ h0
      simpa [Addr.add] using this
    · have e1 : ((List.range len).map f).getD k d = f k := by
        rw [List.getD_eq_getElem?_getD, List.getElem?_map, List.getElem?_range hk]; rfl
      simp only [e1] at hu
      have := hf k hk j u hu
      unfold Addr.add at this
      split at this
      · rename_i h00
        rw [show off + k * size + j = off by omega]
        exact this
      · rw [Nat.add_assoc]; exact this
end

end Go.Proofs.YtcbeiadimchknaaGreat
