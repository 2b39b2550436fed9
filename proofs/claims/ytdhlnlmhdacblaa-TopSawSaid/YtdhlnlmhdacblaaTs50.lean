/- From a walk to the statement, for laws that leave the memory that was there as it was: the arguments opened, the arguments read again; A store of bars that came in as an argument (layer 1). -/
import Derived.ReadAgain
import Derived.ChangeSame
import Derived.Deep.Slices
import Derived.Lib.SmallJoins
import Derived.Deep.Frames
import Derived.JoinedOf
import Derived.JoinedAt
import Derived.RowKit3
import Derived.OpenShut
import Derived.ProofKit
import Derived.RowKit2
import Derived.Test.YtdhlnlmhdacblaaRows
import Derived.Test.YtdhlnlmhdacblaaTs02
import Derived.Test.YtdhlnlmhdacblaaTs03
namespace Go.Proofs.Ytdhlnlmhdacblaa
open Go.RowKit Go.ChangeShapes Go.WideShapes Go.ChangeAt Go.Deep Go.Joins
open Go.Sort (grow)
set_option linter.unusedVariables false
set_option linter.unusedSimpArgs false

theorem jn_own : ownKnob Try.prog.godebug = none := by kernel_rfl
theorem jn_kids : Kids Try.prog (· < Try.prog.types.size) := kids_rows (by kernel_rfl) (by kernel_rfl)
theorem jn_full : ∀ t e, t < Try.prog.types.size → Try.prog.underlying t = some (.slice e) → 0 < Try.prog.cellsOf e := slices_full_of Try.prog (by kernel_rfl)

section
variable {H : Type} {enc : TypeId × Value → H} {P : Program} {w w' : World} {base : Nat} {spare : Nat → Bool} {held : Bool}
theorem trodAll_carry : ∀ {ts : List TypeId} {vs : List Value} {ds : List (DataW H)} {ps : List MemPlace}, DataW.TrodAll enc P w base spare held ts vs ds ps → (∀ p ∈ ps, w.sameAt w' p) → DataW.TrodAll enc P w' base spare held ts vs ds ps
  | [], [], [], _, h, _ => h
  | _ :: _, _ :: _, _ :: _, _, ⟨p, q, ⟨n, hn⟩, h2, e⟩, hs => ⟨p, q, ⟨n, DataW.trod_carry n _ _ _ hn (fun x hx => hs x (by rw [e]; exact List.mem_append_left _ hx))⟩, trodAll_carry h2 (fun x hx => hs x (by rw [e]; exact List.mem_append_right _ hx)), e⟩

/-- the last step of a law -/
theorem law_post {f : Func} {s : ChangeSpec} {tb : TypeId} {W W' : World} {args : Array Value} {ds : List (DataW H)} {before : List MemPlace} (K : Kids P (· < P.types.size)) (hz : ∀ t e, t < P.types.size → P.underlying t = some (.slice e) → 0 < P.cellsOf e)
    (hT : ∀ t ∈ f.params.toList, t < P.types.size) (hr : f.resultTypes = #[tb]) (htb : P.underlying tb = some .bool) (hv : s.vars = [])
    (h1 : (s.fn H ds).results = [.lit (.bool true)]) (h2 : (s.fn H ds).args = ds) (h3 : (s.fn H ds).vars = [])
    (hW : DataW.Whole enc P f.params.toList s.vars false W args.toList ds [] before) (hb : Below W.heap.size W W') : s.post enc P f false true false false W args (.bool true) W' := by
  have hW' := hW
  obtain ⟨p, q, hA, hV, rfl, _, _⟩ := hW
  rw [hv] at hV
  obtain ⟨-, rfl⟩ := trodVars_none hV
  have hlt := hA.lt
  refine ⟨ds, [], p ++ [], [], p, [], hW', ?_, ?_, ?_, ?_, fun h => by cases h⟩
  · rw [List.append_nil, h1, hr]
    exact trodAll_mk1 (shut_bool htb true)
  · rw [List.append_nil, h2]
    refine trodAll_carry (DataW.TrodAll.respare K hz hT hA (fun x hx => by simpa using hlt x hx)) (fun x hx => ?_)
    have hx' := hlt x hx
    cases x with
    | cell b o => exact World.cell?_of_block (a := ⟨b, o, none⟩) (hb.block b hx')
    | map b => exact hb.block b hx'
  · rw [List.append_nil, h3, hv]; rfl
  · exact World.keptBut_mono (fun _ h => h.elim) (hb.frame (fun _ => False))

/-- a slice that came in reads as a list -/
theorem open_sl {α : Type} (enc' : α → List Value) (size : Nat) (d : α) {t e : TypeId} {fuel : Nat} {cs : List Value} {x : DataW H × List MemPlace} (ht : P.underlying t = some (.slice e)) (hC : P.cellsOf e = size) (hsz : 0 < size) (hlen : ∀ a, (enc' a).length = size)
    (hE : ∀ n cs x, DataW.trod enc P w base spare held n e cs = some x → ∃ a : α, cs = enc' a) (h : DataW.trod enc P w base spare held fuel t cs = some x) :
    ∃ A n c xs, cs = [.slice A n c] ∧ n ≤ maxLen ∧ SlAt enc' size d w A n xs := by
  rcases open_slice ht h with ⟨rfl, -⟩ | ⟨a, len, cap, m, n, D, Pl, rfl, hb, hl, hm, hmm, -, hi⟩
  · exact ⟨none, 0, 0, [], rfl, Nat.zero_le _, rfl, fun h => absurd h (by omega)⟩
  · have hlm : len ≤ m := by rw [hmm]; split <;> omega
    have hi' : ∀ i, i < len → ∃ y : α, ∀ j u, (enc' y)[j]? = some u → w.cell? (a.add (i * size + j)) = some u := by
      intro i hilt
      obtain ⟨cs', hc, htr⟩ := hi i (by omega)
      obtain ⟨y, rfl⟩ := hE _ _ _ htr
      refine ⟨y, fun j u hu => ?_⟩
      obtain ⟨_, hcl, hat⟩ := World.cells?_some hc
      have hj : j < size := by
        have := (List.getElem?_eq_some_iff.1 hu).1
        rwa [hlen] at this
      have h1 := hat j (by rw [hC]; exact hj)
      rw [hC, add_of_add, hu] at h1
      exact h1
    have hf : ∃ f : Nat → α, ∀ i, i < len → ∀ j u, (enc' (f i))[j]? = some u → w.cell? (a.add (i * size + j)) = some u := by
      refine ⟨fun i => if h : i < len then Classical.choose (hi' i h) else d, fun i hilt => ?_⟩
      simp only [dif_pos hilt]
      exact Classical.choose_spec (hi' i hilt)
    obtain ⟨f, hf⟩ := hf
    refine ⟨some a, len, cap, (List.range len).map f, rfl, by omega, by simp, fun hn => ?_⟩
    obtain ⟨b, off, spot⟩ := a
    have hl0 : 0 < (enc' (f 0)).length := by rw [hlen]; exact hsz
    have h0 := hf 0 hn 0 _ (List.getElem?_eq_getElem hl0)
    have hspot : spot = none := by simpa [Addr.add] using World.cell?_spot h0
    subst hspot
    refine ⟨b, off, rfl, ?_, fun k hk j u hu => ?_⟩
    · have := World.block_lt_of_cell? w _ h0
      simpa [Addr.add] using this
    · have e1 : ((List.range len).map f).getD k d = f k := by
        rw [List.getD_eq_getElem?_getD, List.getElem?_map, List.getElem?_range hk]; rfl
      simp only [e1] at hu
      have := hf k hk j u hu
      unfold Addr.add at this
      split at this
      · rename_i h00
        rw [show off + k * size + j = off by omega]
        exact this
      · rw [Nat.add_assoc]; exact this
end

end Go.Proofs.Ytdhlnlmhdacblaa

namespace Go.Proofs.Ytdhlnlmhdacblaa
open Go.RowKit Go.ChangeShapes Go.WideShapes Go.ChangeAt Go.Deep Go.Joins
open Go.Sort (grow)
set_option linter.unusedVariables false
set_option linter.unusedSimpArgs false

section
variable {H : Type} {enc : TypeId × Value → H} {w : World} {base : Nat} {spare : Nat → Bool} {held : Bool}
/-- a slice that came in reads as a list, of whose elements more is known -/
theorem open_slQ {P : Program} {α : Type} (enc' : α → List Value) (Q : α → Prop) (size : Nat) (d : α) {t e : TypeId} {fuel : Nat} {cs : List Value} {x : DataW H × List MemPlace} (ht : P.underlying t = some (.slice e)) (hC : P.cellsOf e = size) (hsz : 0 < size) (hlen : ∀ a, (enc' a).length = size)
    (hE : ∀ n cs x, DataW.trod enc P w base spare held n e cs = some x → ∃ a : α, cs = enc' a ∧ Q a) (h : DataW.trod enc P w base spare held fuel t cs = some x) :
    ∃ A n c xs, cs = [.slice A n c] ∧ n ≤ maxLen ∧ SlAt enc' size d w A n xs ∧ ∀ k, k < n → Q (xs.getD k d) := by
  rcases open_slice ht h with ⟨rfl, -⟩ | ⟨a, len, cap, m, n, D, Pl, rfl, hb, hl, hm, hmm, -, hi⟩
  · exact ⟨none, 0, 0, [], rfl, Nat.zero_le _, ⟨rfl, fun h => absurd h (by omega)⟩, fun k hk => absurd hk (by omega)⟩
  · have hlm : len ≤ m := by rw [hmm]; split <;> omega
    have hi' : ∀ i, i < len → ∃ y : α, (∀ j u, (enc' y)[j]? = some u → w.cell? (a.add (i * size + j)) = some u) ∧ Q y := by
      intro i hilt
      obtain ⟨cs', hc, htr⟩ := hi i (by omega)
      obtain ⟨y, rfl, hQ⟩ := hE _ _ _ htr
      refine ⟨y, fun j u hu => ?_, hQ⟩
      obtain ⟨_, hcl, hat⟩ := World.cells?_some hc
      have hj : j < size := by
        have := (List.getElem?_eq_some_iff.1 hu).1
        rwa [hlen] at this
      have h1 := hat j (by rw [hC]; exact hj)
      rw [hC, add_of_add, hu] at h1
      exact h1
    have hf : ∃ f : Nat → α, ∀ i, i < len → (∀ j u, (enc' (f i))[j]? = some u → w.cell? (a.add (i * size + j)) = some u) ∧ Q (f i) := by
      refine ⟨fun i => if h : i < len then Classical.choose (hi' i h) else d, fun i hilt => ?_⟩
      simp only [dif_pos hilt]
      exact Classical.choose_spec (hi' i hilt)
    obtain ⟨f, hf⟩ := hf
    have e1 : ∀ k, k < len → ((List.range len).map f).getD k d = f k := fun k hk => by
      rw [List.getD_eq_getElem?_getD, List.getElem?_map, List.getElem?_range hk]; rfl
    refine ⟨some a, len, cap, (List.range len).map f, rfl, by omega, ⟨by simp, fun hn => ?_⟩, fun k hk => by rw [e1 k hk]; exact (hf k hk).2⟩
    obtain ⟨b, off, spot⟩ := a
    have hl0 : 0 < (enc' (f 0)).length := by rw [hlen]; exact hsz
    have h0 := (hf 0 hn).1 0 _ (List.getElem?_eq_getElem hl0)
    have hspot : spot = none := by simpa [Addr.add] using World.cell?_spot h0
    subst hspot
    refine ⟨b, off, rfl, ?_, fun k hk j u hu => ?_⟩
    · have := World.block_lt_of_cell? w _ h0
      simpa [Addr.add] using this
    · simp only [e1 k hk] at hu
      have := (hf k hk).1 j u hu
      unfold Addr.add at this
      split at this
      · rename_i h00
        rw [show off + k * size + j = off by omega]
        exact this
      · rw [Nat.add_assoc]; exact this
set_option maxRecDepth 100000 in
theorem open_bar (n : Nat) (cs : List Value) (x : DataW H × List MemPlace) (h : DataW.trod enc Try.prog w base spare held n 35 cs = some x) : ∃ a : Br, cs = encB a := by
  obtain ⟨xs, m, rfl, -, hl, hxl, hf⟩ := DataW.trod_struct Try.underlying35 h
  have hl2 : cs.length = 2 := hl.trans (by kernel_rfl)
  have hx2 : xs.length = 2 := hxl
  match cs, hl2, xs, hx2 with
  | [c0, c1], _, [y0, y1], _ =>
    have k1 : Try.prog.cellsOf 3 = 1 := by kernel_rfl
    have h0 : DataW.trod enc Try.prog w base spare held m 3 [c0] = some y0 := by have := hf 0 _ rfl; simpa [k1] using this
    have h1 : DataW.trod enc Try.prog w base spare held m 3 [c1] = some y1 := by have := hf 1 _ rfl; simpa [k1] using this
    obtain ⟨a, ha, -, -⟩ := DataW.trod_int Try.underlying3 h0
    obtain ⟨b, hb, -, -⟩ := DataW.trod_int Try.underlying3 h1
    simp at ha hb
    subst ha hb
    exact ⟨⟨a, b⟩, rfl⟩
set_option maxRecDepth 100000 in
theorem open_int1 (n : Nat) (cs : List Value) (x : DataW H × List MemPlace) (h : DataW.trod enc Try.prog w base spare held n 3 cs = some x) : ∃ a : Int, cs = encI a := by
  obtain ⟨a, ha, -, -⟩ := DataW.trod_int Try.underlying3 h
  exact ⟨a, ha⟩
set_option maxRecDepth 100000 in
theorem open_piece (n : Nat) (cs : List Value) (x : DataW H × List MemPlace) (h : DataW.trod enc Try.prog w base spare held n 38 cs = some x) : ∃ a : Pm, cs = encP a ∧ ∃ hs, IntsAt w a.h.A a.h.n hs := by
  obtain ⟨xs, m, rfl, -, hl, hxl, hf⟩ := DataW.trod_struct Try.underlying38 h
  have hl2 : cs.length = 2 := hl.trans (by kernel_rfl)
  have hx2 : xs.length = 2 := hxl
  match cs, hl2, xs, hx2 with
  | [c0, c1], _, [y0, y1], _ =>
    have k1 : Try.prog.cellsOf 3 = 1 := by kernel_rfl
    have k2 : Try.prog.cellsOf 36 = 1 := by kernel_rfl
    have h0 : DataW.trod enc Try.prog w base spare held m 3 [c0] = some y0 := by have := hf 0 _ rfl; simpa [k1] using this
    have h1 : DataW.trod enc Try.prog w base spare held m 36 [c1] = some y1 := by have := hf 1 _ rfl; simpa [k2] using this
    obtain ⟨a, ha, -, -⟩ := DataW.trod_int Try.underlying3 h0
    obtain ⟨A, n1, c, zs, e0, m0, s0⟩ := open_sl encI 1 0 Try.underlying36 (by kernel_rfl) (by omega) encI_len open_int1 h1
    simp at ha e0
    subst ha e0
    exact ⟨⟨a, ⟨A, n1, c⟩⟩, rfl, zs, ints_iff.2 s0⟩
set_option maxRecDepth 100000 in
theorem open_store {r : Reach} {b0 : Nat} {v : Value} {d : DataW H} {p : List MemPlace} (hv : Value.okWide Try.prog w r b0 25 v) (h : DataW.Trod enc Try.prog w base spare held 25 v d p) :
    ∃ (Ab Ap : Option Addr) (nb cb np cp : Nat) (kf wrg : Int) (bs : List Br) (ms : List Pm) (ps : List Pc), v = .agg #[.slice Ab nb cb, .int .i64 kf, .slice Ap np cp, .int .i64 wrg] ∧ BrsAt w Ab nb bs ∧ PcsAt w Ap np ms ps := by
  obtain ⟨cs, rfl, hsz⟩ := okWide_struct Try.underlying25 hv
  obtain ⟨fuel, hf⟩ := h
  obtain ⟨xs, m, _, -, hl, hxl, hf⟩ := DataW.trod_struct Try.underlying25 hf
  have hsz2 : cs.size = 4 := hsz.trans (by kernel_rfl)
  have hx2 : xs.length = 4 := hxl
  obtain ⟨l⟩ := cs
  have hl2 : l.length = 4 := hsz2
  match l, hl2, xs, hx2 with
  | [c0, c1, c2, c3], _, [y0, y1, y2, y3], _ =>
    have k1 : Try.prog.cellsOf 3 = 1 := by kernel_rfl
    have k2 : Try.prog.cellsOf 22 = 1 := by kernel_rfl
    have k3 : Try.prog.cellsOf 23 = 1 := by kernel_rfl
    have h0 : DataW.trod enc Try.prog w base spare held m 22 [c0] = some y0 := by have := hf 0 _ rfl; simpa [Value.cells, k2] using this
    have h1 : DataW.trod enc Try.prog w base spare held m 3 [c1] = some y1 := by have := hf 1 _ rfl; simpa [Value.cells, k1] using this
    have h2 : DataW.trod enc Try.prog w base spare held m 23 [c2] = some y2 := by have := hf 2 _ rfl; simpa [Value.cells, k3] using this
    have h3 : DataW.trod enc Try.prog w base spare held m 3 [c3] = some y3 := by have := hf 3 _ rfl; simpa [Value.cells, k1] using this
    obtain ⟨Ab, nb, cb, bs, e0, -, s0⟩ := open_sl encB 2 ⟨0, 0⟩ Try.underlying22 (by kernel_rfl) (by omega) encB_len open_bar h0
    obtain ⟨kf, e1, -, -⟩ := DataW.trod_int Try.underlying3 h1
    obtain ⟨Ap, np, cp, ms, e2, -, s2, q2⟩ := open_slQ encP (fun a => ∃ hs, IntsAt w a.h.A a.h.n hs) 2 ⟨0, ⟨none, 0, 0⟩⟩ Try.underlying23 (by kernel_rfl) (by omega) encP_len open_piece h2
    obtain ⟨wrg, e3, -, -⟩ := DataW.trod_int Try.underlying3 h3
    simp at e0 e1 e2 e3
    subst e0 e1 e2 e3
    have hsx : ∃ f : Nat → List Int, ∀ k, k < np → IntsAt w (pmAt ms k).h.A (pmAt ms k).h.n (f k) := by
      refine ⟨fun k => if h : k < np then Classical.choose (q2 k h) else [], fun k hk => ?_⟩
      simp only [dif_pos hk]
      exact Classical.choose_spec (q2 k hk)
    obtain ⟨f, hf⟩ := hsx
    have hp : ∀ k, k < np → pcAt ((List.range np).map fun k => (⟨(pmAt ms k).long, f k⟩ : Pc)) k = ⟨(pmAt ms k).long, f k⟩ := fun k hk => by
      unfold pcAt
      rw [List.getD_eq_getElem?_getD, List.getElem?_map, List.getElem?_range hk]; rfl
    refine ⟨Ab, Ap, nb, cb, np, cp, kf, wrg, bs, ms, (List.range np).map fun k => ⟨(pmAt ms k).long, f k⟩, rfl, s0, ⟨s2, by simp, fun k hk => by rw [hp k hk], fun k hk => by rw [hp k hk]; exact hf k hk⟩⟩
end
section
variable {H : Type} {enc : TypeId × Value → H} {w : World} {base : Nat} {spare : Nat → Bool} {held : Bool}
end

section
variable {H : Type} {enc : TypeId × Value → H} {w : World} {base : Nat} {spare : Nat → Bool} {held : Bool}
set_option maxRecDepth 100000 in
theorem open_ints1 {r : Reach} {b0 : Nat} {v : Value} {d : DataW H} {p : List MemPlace} (hv : Value.okWide Try.prog w r b0 36 v) (h : DataW.Trod enc Try.prog w base spare held 36 v d p) :
    ∃ (A : Option Addr) (n c : Nat) (xs : List Int), v = .slice A n c ∧ n ≤ 9223372036854775807 ∧ IntsAt w A n xs := by
  obtain ⟨fuel, hf⟩ := h
  obtain ⟨A, n, c, xs, e0, m0, s0⟩ := open_sl encI 1 0 Try.underlying36 (by kernel_rfl) (by omega) encI_len open_int1 hf
  unfold maxLen at m0
  obtain ⟨a, len, cap, rfl⟩ := okWide_slice Try.underlying36 hv
  simp [Value.cells] at e0
  obtain ⟨rfl, rfl, rfl⟩ := e0
  exact ⟨_, _, _, xs, rfl, m0, s0⟩
end

end Go.Proofs.Ytdhlnlmhdacblaa
