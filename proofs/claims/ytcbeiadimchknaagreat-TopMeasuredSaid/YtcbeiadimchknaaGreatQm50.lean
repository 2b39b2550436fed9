/- A pull that came in as an argument (layer 4). -/
import Derived.Test.YtcbeiadimchknaaGreatQm49
import Derived.Test.YtcbeiadimchknaaGreatQm06
import Derived.SizedLaws
namespace Go.Proofs.YtcbeiadimchknaaGreat
open Go.RowKit Go.ChangeShapes Go.WideShapes Go.ChangeAt Go.Deep Go.Joins
open Go.Sort (grow)
set_option linter.unusedVariables false
set_option linter.unusedSimpArgs false

section
variable {H : Type} {enc : TypeId × Value → H} {w : World} {base : Nat} {spare : Nat → Bool} {held : Bool}
set_option maxRecDepth 100000 in
theorem open_span4 (n : Nat) (cs : List Value) (x : DataW H × List MemPlace) (h : DataW.trod enc Tryz.prog w base spare held n 34 cs = some x) : ∃ a b : Int, cs = [.int .i64 a, .int .i64 b] := by
  obtain ⟨xs, m, rfl, -, hl, hxl, hf⟩ := DataW.trod_struct Tryz.underlying34 h
  have hl2 : cs.length = 2 := hl.trans (by kernel_rfl)
  have hx2 : xs.length = 2 := hxl
  match cs, hl2, xs, hx2 with
  | [c0, c1], _, [y0, y1], _ =>
    have k1 : Tryz.prog.cellsOf 3 = 1 := by kernel_rfl
    have h0 : DataW.trod enc Tryz.prog w base spare held m 3 [c0] = some y0 := by have := hf 0 _ rfl; simpa [k1] using this
    have h1 : DataW.trod enc Tryz.prog w base spare held m 3 [c1] = some y1 := by have := hf 1 _ rfl; simpa [k1] using this
    obtain ⟨a, ha, -, -⟩ := DataW.trod_int Tryz.underlying3 h0
    obtain ⟨b, hb, -, -⟩ := DataW.trod_int Tryz.underlying3 h1
    simp at ha hb
    subst ha hb
    exact ⟨a, b, rfl⟩
set_option maxRecDepth 100000 in
theorem open_rod4 (n : Nat) (cs : List Value) (x : DataW H × List MemPlace) (h : DataW.trod enc Tryz.prog w base spare held n 94 cs = some x) : ∃ a : Ro4, cs = encR4 a := by
  obtain ⟨xs, m, rfl, -, hl, hxl, hf⟩ := DataW.trod_struct Tryz.underlying94 h
  have hl2 : cs.length = 3 := hl.trans (by kernel_rfl)
  have hx2 : xs.length = 3 := hxl
  match cs, hl2, xs, hx2 with
  | [c0, c1, c2], _, [y0, y1, y2], _ =>
    have k1 : Tryz.prog.cellsOf 3 = 1 := by kernel_rfl
    have h0 : DataW.trod enc Tryz.prog w base spare held m 3 [c0] = some y0 := by have := hf 0 _ rfl; simpa [k1] using this
    have h1 : DataW.trod enc Tryz.prog w base spare held m 3 [c1] = some y1 := by have := hf 1 _ rfl; simpa [k1] using this
    have h2 : DataW.trod enc Tryz.prog w base spare held m 3 [c2] = some y2 := by have := hf 2 _ rfl; simpa [k1] using this
    obtain ⟨a, ha, -, -⟩ := DataW.trod_int Tryz.underlying3 h0
    obtain ⟨b, hb, -, -⟩ := DataW.trod_int Tryz.underlying3 h1
    obtain ⟨c, hc, -, -⟩ := DataW.trod_int Tryz.underlying3 h2
    simp at ha hb hc
    subst ha hb hc
    exact ⟨⟨a, b, c⟩, rfl⟩
set_option maxRecDepth 100000 in
theorem open_re4 (n : Nat) (cs : List Value) (x : DataW H × List MemPlace) (h : DataW.trod enc Tryz.prog w base spare held n 58 cs = some x) : ∃ a : Re4, cs = encE4 a := by
  obtain ⟨xs, m, rfl, -, hl, hxl, hf⟩ := DataW.trod_struct Tryz.underlying58 h
  have hl2 : cs.length = 7 := hl.trans (by kernel_rfl)
  have hx2 : xs.length = 6 := hxl
  match cs, hl2, xs, hx2 with
  | [c0, c1, c2, c3, c4, c5, c6], _, [y0, y1, y2, y3, y4, y5], _ =>
    have k1 : Tryz.prog.cellsOf 3 = 1 := by kernel_rfl
    have k2 : Tryz.prog.cellsOf 34 = 2 := by kernel_rfl
    have h0 : DataW.trod enc Tryz.prog w base spare held m 3 [c0] = some y0 := by have := hf 0 _ rfl; simpa [k1] using this
    have h1 : DataW.trod enc Tryz.prog w base spare held m 3 [c1] = some y1 := by have := hf 1 _ rfl; simpa [k1] using this
    have h2 : DataW.trod enc Tryz.prog w base spare held m 3 [c2] = some y2 := by have := hf 2 _ rfl; simpa [k1] using this
    have h3 : DataW.trod enc Tryz.prog w base spare held m 3 [c3] = some y3 := by have := hf 3 _ rfl; simpa [k1] using this
    have h4 : DataW.trod enc Tryz.prog w base spare held m 3 [c4] = some y4 := by have := hf 4 _ rfl; simpa [k1] using this
    have h5 : DataW.trod enc Tryz.prog w base spare held m 34 [c5, c6] = some y5 := by have := hf 5 _ rfl; simpa [k2] using this
    obtain ⟨a0, e0, -, -⟩ := DataW.trod_int Tryz.underlying3 h0
    obtain ⟨a1, e1, -, -⟩ := DataW.trod_int Tryz.underlying3 h1
    obtain ⟨a2, e2, -, -⟩ := DataW.trod_int Tryz.underlying3 h2
    obtain ⟨a3, e3, -, -⟩ := DataW.trod_int Tryz.underlying3 h3
    obtain ⟨a4, e4, -, -⟩ := DataW.trod_int Tryz.underlying3 h4
    obtain ⟨a5, a6, e5⟩ := open_span4 _ _ _ h5
    simp at e0 e1 e2 e3 e4 e5
    obtain ⟨e5, e6⟩ := e5
    subst e0 e1 e2 e3 e4 e5 e6
    exact ⟨⟨a0, a1, a2, a3, a4, a5, a6⟩, rfl⟩
set_option maxRecDepth 100000 in
theorem open_pull {r : Reach} {b0 : Nat} {v : Value} {d : DataW H} {p : List MemPlace} (hv : Value.okWide Tryz.prog w r b0 50 v) (h : DataW.Trod enc Tryz.prog w base spare held 50 v d p) :
    ∃ (Ar : Option Addr) (nr cr : Nat) (Ad : Option Addr) (nd cd : Nat) (q : P4), v = .agg #[.int .i64 q.ir, .int .i64 q.glo, .int .i64 q.ghi, .slice Ar nr cr, .slice Ad nd cd, .int .i64 q.wr] ∧ MemP Ar nr Ad nd q w := by
  obtain ⟨cs, rfl, hsz⟩ := okWide_struct Tryz.underlying50 hv
  obtain ⟨fuel, hf⟩ := h
  obtain ⟨xs, m, _, -, hl, hxl, hf⟩ := DataW.trod_struct Tryz.underlying50 hf
  have hsz2 : cs.size = 6 := hsz.trans (by kernel_rfl)
  have hx2 : xs.length = 5 := hxl
  obtain ⟨l⟩ := cs
  have hl2 : l.length = 6 := hsz2
  match l, hl2, xs, hx2 with
  | [c0, c1, c2, c3, c4, c5], _, [y0, y1, y2, y3, y4], _ =>
    have k1 : Tryz.prog.cellsOf 3 = 1 := by kernel_rfl
    have k2 : Tryz.prog.cellsOf 34 = 2 := by kernel_rfl
    have k3 : Tryz.prog.cellsOf 47 = 1 := by kernel_rfl
    have k4 : Tryz.prog.cellsOf 48 = 1 := by kernel_rfl
    have h0 : DataW.trod enc Tryz.prog w base spare held m 3 [c0] = some y0 := by have := hf 0 _ rfl; simpa [Value.cells, k1] using this
    have h1 : DataW.trod enc Tryz.prog w base spare held m 34 [c1, c2] = some y1 := by have := hf 1 _ rfl; simpa [Value.cells, k2] using this
    have h2 : DataW.trod enc Tryz.prog w base spare held m 47 [c3] = some y2 := by have := hf 2 _ rfl; simpa [Value.cells, k3] using this
    have h3 : DataW.trod enc Tryz.prog w base spare held m 48 [c4] = some y3 := by have := hf 3 _ rfl; simpa [Value.cells, k4] using this
    have h4 : DataW.trod enc Tryz.prog w base spare held m 3 [c5] = some y4 := by have := hf 4 _ rfl; simpa [Value.cells, k1] using this
    obtain ⟨ir, e0, -, -⟩ := DataW.trod_int Tryz.underlying3 h0
    obtain ⟨lo, hi, e1⟩ := open_span4 _ _ _ h1
    obtain ⟨Ar, nr, cr, rs, e2, -, s2⟩ := open_sl encR4 3 ⟨0, 0, 0⟩ Tryz.underlying47 (by kernel_rfl) (by omega) encR4_len open_rod4 h2
    obtain ⟨Ad, nd, cd, ds, e3, -, s3⟩ := open_sl encE4 7 ⟨0, 0, 0, 0, 0, 0, 0⟩ Tryz.underlying48 (by kernel_rfl) (by omega) encE4_len open_re4 h3
    obtain ⟨wr, e4, -, -⟩ := DataW.trod_int Tryz.underlying3 h4
    simp at e0 e1 e2 e3 e4
    obtain ⟨e1, e5⟩ := e1
    subst e0 e1 e2 e3 e4 e5
    exact ⟨Ar, nr, cr, Ad, nd, cd, ⟨ir, lo, hi, wr, rs, ds⟩, rfl, s2, s3⟩
end

section
variable {H : Type} {enc : TypeId × Value → H} {w : World} {base : Nat} {spare : Nat → Bool} {held : Bool}
theorem open_sl_w {P : Program} {t e : TypeId} {fuel : Nat} {cs : List Value} {x : DataW H × List MemPlace} (ht : P.underlying t = some (.slice e)) (h : DataW.trod enc P w base spare held fuel t cs = some x) {A : Option Addr} {n c : Nat} (hcs : cs = [.slice A n c]) (hw : ∀ k ∈ x.1.weights P t, k ≤ reachBytes) : n * P.bytesOf e ≤ reachBytes := by
  rcases open_slice ht h with ⟨h1, -⟩ | ⟨a, len, cap, m, n', D, Pl, h1, hb, hl, hm, hmm, hx, hi⟩
  · rw [hcs] at h1
    simp at h1
    obtain ⟨-, rfl, -⟩ := h1
    simp
  · rw [hcs] at h1
    simp at h1
    obtain ⟨-, rfl, -⟩ := h1
    subst hx
    simp only [DataW.weights, ht, List.length_map, List.length_range] at hw
    have := hw _ (List.mem_cons_self ..)
    refine Nat.le_trans ?_ this
    exact Nat.mul_le_mul_right _ (by omega)
set_option maxRecDepth 100000 in
theorem open_pull_w {r : Reach} {b0 : Nat} {v : Value} {d : DataW H} {p : List MemPlace} (hv : Value.okWide Tryz.prog w r b0 50 v) (h : DataW.Trod enc Tryz.prog w base spare held 50 v d p) (hw : ∀ k ∈ d.weights Tryz.prog 50, k ≤ reachBytes) :
    ∃ (Ar : Option Addr) (nr cr : Nat) (Ad : Option Addr) (nd cd : Nat) (q : P4), v = .agg #[.int .i64 q.ir, .int .i64 q.glo, .int .i64 q.ghi, .slice Ar nr cr, .slice Ad nd cd, .int .i64 q.wr] ∧ MemP Ar nr Ad nd q w ∧ nr * 24 ≤ 140737488351232 ∧ nd * 56 ≤ 140737488351232 := by
  obtain ⟨cs, rfl, hsz⟩ := okWide_struct Tryz.underlying50 hv
  obtain ⟨fuel, hf⟩ := h
  obtain ⟨xs, m, _, hd, hl, hxl, hf⟩ := DataW.trod_struct Tryz.underlying50 hf
  have hd1 : d = .agg (xs.map (·.1)) := congrArg Prod.fst hd
  clear hd
  have hsz2 : cs.size = 6 := hsz.trans (by kernel_rfl)
  have hx2 : xs.length = 5 := hxl
  obtain ⟨l⟩ := cs
  have hl2 : l.length = 6 := hsz2
  match l, hl2, xs, hx2, hd1, hf with
  | [c0, c1, c2, c3, c4, c5], _, [y0, y1, y2, y3, y4], _, hd1, hf =>
    have k1 : Tryz.prog.cellsOf 3 = 1 := by kernel_rfl
    have k2 : Tryz.prog.cellsOf 34 = 2 := by kernel_rfl
    have k3 : Tryz.prog.cellsOf 47 = 1 := by kernel_rfl
    have k4 : Tryz.prog.cellsOf 48 = 1 := by kernel_rfl
    have b1 : Tryz.prog.bytesOf 94 = 24 := by kernel_rfl
    have b2 : Tryz.prog.bytesOf 58 = 56 := by kernel_rfl
    have h0 : DataW.trod enc Tryz.prog w base spare held m 3 [c0] = some y0 := by have := hf 0 _ rfl; simpa [Value.cells, k1] using this
    have h1 : DataW.trod enc Tryz.prog w base spare held m 34 [c1, c2] = some y1 := by have := hf 1 _ rfl; simpa [Value.cells, k2] using this
    have h2 : DataW.trod enc Tryz.prog w base spare held m 47 [c3] = some y2 := by have := hf 2 _ rfl; simpa [Value.cells, k3] using this
    have h3 : DataW.trod enc Tryz.prog w base spare held m 48 [c4] = some y3 := by have := hf 3 _ rfl; simpa [Value.cells, k4] using this
    have h4 : DataW.trod enc Tryz.prog w base spare held m 3 [c5] = some y4 := by have := hf 4 _ rfl; simpa [Value.cells, k1] using this
    have w2 : ∀ k ∈ y2.1.weights Tryz.prog 47, k ≤ reachBytes := fun k hk => hw k (by
      rw [hd1]
      simp only [DataW.weights, Tryz.underlying50]
      exact DataW.weights_mem_each (j := 2) rfl rfl k hk)
    have w3 : ∀ k ∈ y3.1.weights Tryz.prog 48, k ≤ reachBytes := fun k hk => hw k (by
      rw [hd1]
      simp only [DataW.weights, Tryz.underlying50]
      exact DataW.weights_mem_each (j := 3) rfl rfl k hk)
    obtain ⟨ir, e0, -, -⟩ := DataW.trod_int Tryz.underlying3 h0
    obtain ⟨lo, hi, e1⟩ := open_span4 _ _ _ h1
    obtain ⟨Ar, nr, cr, rs, e2, -, s2⟩ := open_sl encR4 3 ⟨0, 0, 0⟩ Tryz.underlying47 (by kernel_rfl) (by omega) encR4_len open_rod4 h2
    obtain ⟨Ad, nd, cd, ds, e3, -, s3⟩ := open_sl encE4 7 ⟨0, 0, 0, 0, 0, 0, 0⟩ Tryz.underlying48 (by kernel_rfl) (by omega) encE4_len open_re4 h3
    have z2 := open_sl_w Tryz.underlying47 h2 e2 w2
    have z3 := open_sl_w Tryz.underlying48 h3 e3 w3
    rw [b1] at z2
    rw [b2] at z3
    obtain ⟨wr, e4, -, -⟩ := DataW.trod_int Tryz.underlying3 h4
    simp at e0 e1 e2 e3 e4
    obtain ⟨e1, e5⟩ := e1
    subst e0 e1 e2 e3 e4 e5
    exact ⟨Ar, nr, cr, Ad, nd, cd, ⟨ir, lo, hi, wr, rs, ds⟩, rfl, ⟨s2, s3⟩, z2, z3⟩
set_option maxRecDepth 100000 in
theorem open_int_c (n : Nat) (cs : List Value) (x : DataW H × List MemPlace) (h : DataW.trod enc Tryz.prog w base spare held n 3 cs = some x) : ∃ a : Int, cs = encI a := by
  obtain ⟨a, ha, -, -⟩ := DataW.trod_int Tryz.underlying3 h
  exact ⟨a, ha⟩
end

end Go.Proofs.YtcbeiadimchknaaGreat
