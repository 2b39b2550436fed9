/- A machine, a pair, a pull that came in as an argument (layers 3, 5). -/
import Derived.Test.YtcinhibmohkeiaaQy49
import Derived.Test.YtcinhibmohkeiaaQy41
import Derived.SizedLaws
namespace Go.Proofs.Ytcinhibmohkeiaa
open Go.RowKit Go.ChangeShapes Go.WideShapes Go.ChangeAt Go.Deep Go.Joins
open Go.Sort (grow)
set_option linter.unusedVariables false
set_option linter.unusedSimpArgs false

section
variable {H : Type} {enc : TypeId × Value → H} {w : World} {base : Nat} {spare : Nat → Bool} {held : Bool}
set_option maxRecDepth 100000 in
theorem open_spanT (n : Nat) (cs : List Value) (x : DataW H × List MemPlace) (h : DataW.trod enc Try.prog w base spare held n 24 cs = some x) : ∃ a : Sp, cs = encS a := by
  obtain ⟨xs, m, rfl, -, hl, hxl, hf⟩ := DataW.trod_struct Try.underlying24 h
  have hl2 : cs.length = 2 := hl.trans (by kernel_rfl)
  have hx2 : xs.length = 2 := hxl
  match cs, hl2, xs, hx2 with
  | [c0, c1], _, [y0, y1], _ =>
    have k1 : Try.prog.cellsOf 3 = 1 := by kernel_rfl
    have h0 : DataW.trod enc Try.prog w base spare held m 3 [c0] = some y0 := by have := hf 0 _ rfl; simpa [k1] using this
    have h1 : DataW.trod enc Try.prog w base spare held m 3 [c1] = some y1 := by have := hf 1 _ rfl; simpa [k1] using this
    obtain ⟨z0, e0, -, -⟩ := DataW.trod_int Try.underlying3 h0
    obtain ⟨z1, e1, -, -⟩ := DataW.trod_int Try.underlying3 h1
    simp at e0 e1
    subst e0 e1
    exact ⟨⟨z0, z1⟩, rfl⟩
set_option maxRecDepth 100000 in
theorem open_leverT (n : Nat) (cs : List Value) (x : DataW H × List MemPlace) (h : DataW.trod enc Try.prog w base spare held n 61 cs = some x) : ∃ a : Lv, cs = encV a := by
  obtain ⟨xs, m, rfl, -, hl, hxl, hf⟩ := DataW.trod_struct Try.underlying61 h
  have hl2 : cs.length = 3 := hl.trans (by kernel_rfl)
  have hx2 : xs.length = 2 := hxl
  match cs, hl2, xs, hx2 with
  | [c0, c1, c2], _, [y0, y1], _ =>
    have k1 : Try.prog.cellsOf 3 = 1 := by kernel_rfl
    have k2 : Try.prog.cellsOf 24 = 2 := by kernel_rfl
    have h0 : DataW.trod enc Try.prog w base spare held m 3 [c0] = some y0 := by have := hf 0 _ rfl; simpa [k1] using this
    have h1 : DataW.trod enc Try.prog w base spare held m 24 [c1, c2] = some y1 := by have := hf 1 _ rfl; simpa [k2] using this
    obtain ⟨z0, e0, -, -⟩ := DataW.trod_int Try.underlying3 h0
    obtain ⟨s, e1⟩ := open_spanT _ _ _ h1
    simp [encS] at e0 e1
    obtain ⟨e1, e2⟩ := e1
    subst e0 e1 e2
    exact ⟨⟨z0, s.lo, s.hi⟩, rfl⟩
set_option maxRecDepth 100000 in
theorem open_balT (n : Nat) (cs : List Value) (x : DataW H × List MemPlace) (h : DataW.trod enc Try.prog w base spare held n 63 cs = some x) : ∃ a : Bal, cs = encA a := by
  obtain ⟨xs, m, rfl, -, hl, hxl, hf⟩ := DataW.trod_struct Try.underlying63 h
  have hl2 : cs.length = 4 := hl.trans (by kernel_rfl)
  have hx2 : xs.length = 4 := hxl
  match cs, hl2, xs, hx2 with
  | [c0, c1, c2, c3], _, [y0, y1, y2, y3], _ =>
    have k1 : Try.prog.cellsOf 3 = 1 := by kernel_rfl
    have h0 : DataW.trod enc Try.prog w base spare held m 3 [c0] = some y0 := by have := hf 0 _ rfl; simpa [k1] using this
    have h1 : DataW.trod enc Try.prog w base spare held m 3 [c1] = some y1 := by have := hf 1 _ rfl; simpa [k1] using this
    have h2 : DataW.trod enc Try.prog w base spare held m 3 [c2] = some y2 := by have := hf 2 _ rfl; simpa [k1] using this
    have h3 : DataW.trod enc Try.prog w base spare held m 3 [c3] = some y3 := by have := hf 3 _ rfl; simpa [k1] using this
    obtain ⟨z0, e0, -, -⟩ := DataW.trod_int Try.underlying3 h0
    obtain ⟨z1, e1, -, -⟩ := DataW.trod_int Try.underlying3 h1
    obtain ⟨z2, e2, -, -⟩ := DataW.trod_int Try.underlying3 h2
    obtain ⟨z3, e3, -, -⟩ := DataW.trod_int Try.underlying3 h3
    simp at e0 e1 e2 e3
    subst e0 e1 e2 e3
    exact ⟨⟨z0, z1, z2, z3⟩, rfl⟩
theorem open_intT (n : Nat) (cs : List Value) (x : DataW H × List MemPlace) (h : DataW.trod enc Try.prog w base spare held n 3 cs = some x) : ∃ a : Int, cs = encI a := by
  obtain ⟨z, e, -, -⟩ := DataW.trod_int Try.underlying3 h
  exact ⟨z, e⟩
set_option maxRecDepth 100000 in
theorem open_machineT (n : Nat) (cs : List Value) (x : DataW H × List MemPlace) (h : DataW.trod enc Try.prog w base spare held n 27 cs = some x) : ∃ (Al : Option Addr) (nl cl : Nat) (wa la lb : Int) (Ab : Option Addr) (nb cb : Nat) (wrg : Int) (lv : List Lv) (bl : List Bal), cs = [.slice Al nl cl, .int .i64 wa, .int .i64 la, .int .i64 lb, .slice Ab nb cb, .int .i64 wrg] ∧ LvsAt w Al nl lv ∧ BasAt w Ab nb bl := by
  obtain ⟨xs, m, rfl, -, hl, hxl, hf⟩ := DataW.trod_struct Try.underlying27 h
  have hl2 : cs.length = 6 := hl.trans (by kernel_rfl)
  have hx2 : xs.length = 5 := hxl
  match cs, hl2, xs, hx2 with
  | [c0, c1, c2, c3, c4, c5], _, [y0, y1, y2, y3, y4], _ =>
    have k1 : Try.prog.cellsOf 22 = 1 := by kernel_rfl
    have k2 : Try.prog.cellsOf 3 = 1 := by kernel_rfl
    have k3 : Try.prog.cellsOf 24 = 2 := by kernel_rfl
    have k4 : Try.prog.cellsOf 25 = 1 := by kernel_rfl
    have h0 : DataW.trod enc Try.prog w base spare held m 22 [c0] = some y0 := by have := hf 0 _ rfl; simpa [k1] using this
    have h1 : DataW.trod enc Try.prog w base spare held m 3 [c1] = some y1 := by have := hf 1 _ rfl; simpa [k2] using this
    have h2 : DataW.trod enc Try.prog w base spare held m 24 [c2, c3] = some y2 := by have := hf 2 _ rfl; simpa [k3] using this
    have h3 : DataW.trod enc Try.prog w base spare held m 25 [c4] = some y3 := by have := hf 3 _ rfl; simpa [k4] using this
    have h4 : DataW.trod enc Try.prog w base spare held m 3 [c5] = some y4 := by have := hf 4 _ rfl; simpa [k2] using this
    obtain ⟨A0, n0, r0, l0, e0, -, s0⟩ := open_sl encV 3 ⟨0, 0, 0⟩ Try.underlying22 (by kernel_rfl) (by omega) encV_len open_leverT h0
    obtain ⟨z1, e1, -, -⟩ := DataW.trod_int Try.underlying3 h1
    obtain ⟨s, e2⟩ := open_spanT _ _ _ h2
    obtain ⟨A3, n3, r3, l3, e3, -, s3⟩ := open_sl encA 4 ⟨0, 0, 0, 0⟩ Try.underlying25 (by kernel_rfl) (by omega) encA_len open_balT h3
    obtain ⟨z4, e4, -, -⟩ := DataW.trod_int Try.underlying3 h4
    simp [encS] at e0 e1 e2 e3 e4
    obtain ⟨e2, e5⟩ := e2
    subst e0 e1 e2 e3 e4 e5
    exact ⟨A0, n0, r0, z1, s.lo, s.hi, A3, n3, r3, z4, l0, l3, rfl, s0, s3⟩
set_option maxRecDepth 100000 in
theorem open_settingT (n : Nat) (cs : List Value) (x : DataW H × List MemPlace) (h : DataW.trod enc Try.prog w base spare held n 30 cs = some x) : ∃ (A : Option Addr) (k c : Nat) (lk : Int) (us : List Int), cs = [.slice A k c, .int .i64 lk] ∧ IntsAt w A k us := by
  obtain ⟨xs, m, rfl, -, hl, hxl, hf⟩ := DataW.trod_struct Try.underlying30 h
  have hl2 : cs.length = 2 := hl.trans (by kernel_rfl)
  have hx2 : xs.length = 2 := hxl
  match cs, hl2, xs, hx2 with
  | [c0, c1], _, [y0, y1], _ =>
    have k1 : Try.prog.cellsOf 28 = 1 := by kernel_rfl
    have k2 : Try.prog.cellsOf 3 = 1 := by kernel_rfl
    have h0 : DataW.trod enc Try.prog w base spare held m 28 [c0] = some y0 := by have := hf 0 _ rfl; simpa [k1] using this
    have h1 : DataW.trod enc Try.prog w base spare held m 3 [c1] = some y1 := by have := hf 1 _ rfl; simpa [k2] using this
    obtain ⟨A0, n0, r0, l0, e0, -, s0⟩ := open_sl encI 1 0 Try.underlying28 (by kernel_rfl) (by omega) encI_len open_intT h0
    obtain ⟨z1, e1, -, -⟩ := DataW.trod_int Try.underlying3 h1
    simp at e0 e1
    subst e0 e1
    exact ⟨A0, n0, r0, z1, l0, rfl, s0⟩
set_option maxRecDepth 100000 in
theorem open_machine {r : Reach} {b0 : Nat} {v : Value} {d : DataW H} {p : List MemPlace} (hv : Value.okWide Try.prog w r b0 27 v) (h : DataW.Trod enc Try.prog w base spare held 27 v d p) :
    ∃ (Al : Option Addr) (nl cl : Nat) (wa la lb : Int) (Ab : Option Addr) (nb cb : Nat) (wrg : Int) (lv : List Lv) (bl : List Bal), v = .agg #[.slice Al nl cl, .int .i64 wa, .int .i64 la, .int .i64 lb, .slice Ab nb cb, .int .i64 wrg] ∧ LvsAt w Al nl lv ∧ BasAt w Ab nb bl := by
  obtain ⟨cs, rfl, hsz⟩ := okWide_struct Try.underlying27 hv
  obtain ⟨fuel, hf⟩ := h
  obtain ⟨xs, m, _, -, hl, hxl, hf⟩ := DataW.trod_struct Try.underlying27 hf
  have hsz2 : cs.size = 6 := hsz.trans (by kernel_rfl)
  have hx2 : xs.length = 5 := hxl
  obtain ⟨l⟩ := cs
  have hl2 : l.length = 6 := hsz2
  match l, hl2, xs, hx2 with
  | [c0, c1, c2, c3, c4, c5], _, [y0, y1, y2, y3, y4], _ =>
    have k1 : Try.prog.cellsOf 22 = 1 := by kernel_rfl
    have k2 : Try.prog.cellsOf 3 = 1 := by kernel_rfl
    have k3 : Try.prog.cellsOf 24 = 2 := by kernel_rfl
    have k4 : Try.prog.cellsOf 25 = 1 := by kernel_rfl
    have h0 : DataW.trod enc Try.prog w base spare held m 22 [c0] = some y0 := by have := hf 0 _ rfl; simpa [Value.cells, k1] using this
    have h1 : DataW.trod enc Try.prog w base spare held m 3 [c1] = some y1 := by have := hf 1 _ rfl; simpa [Value.cells, k2] using this
    have h2 : DataW.trod enc Try.prog w base spare held m 24 [c2, c3] = some y2 := by have := hf 2 _ rfl; simpa [Value.cells, k3] using this
    have h3 : DataW.trod enc Try.prog w base spare held m 25 [c4] = some y3 := by have := hf 3 _ rfl; simpa [Value.cells, k4] using this
    have h4 : DataW.trod enc Try.prog w base spare held m 3 [c5] = some y4 := by have := hf 4 _ rfl; simpa [Value.cells, k2] using this
    obtain ⟨A0, n0, r0, l0, e0, -, s0⟩ := open_sl encV 3 ⟨0, 0, 0⟩ Try.underlying22 (by kernel_rfl) (by omega) encV_len open_leverT h0
    obtain ⟨z1, e1, -, -⟩ := DataW.trod_int Try.underlying3 h1
    obtain ⟨s, e2⟩ := open_spanT _ _ _ h2
    obtain ⟨A3, n3, r3, l3, e3, -, s3⟩ := open_sl encA 4 ⟨0, 0, 0, 0⟩ Try.underlying25 (by kernel_rfl) (by omega) encA_len open_balT h3
    obtain ⟨z4, e4, -, -⟩ := DataW.trod_int Try.underlying3 h4
    simp [encS] at e0 e1 e2 e3 e4
    obtain ⟨e2, e5⟩ := e2
    subst e0 e1 e2 e3 e4 e5
    exact ⟨A0, n0, r0, z1, s.lo, s.hi, A3, n3, r3, z4, l0, l3, rfl, s0, s3⟩
set_option maxRecDepth 100000 in
theorem open_pair5 {r : Reach} {b0 : Nat} {v : Value} {d : DataW H} {p : List MemPlace} (hv : Value.okWide Try.prog w r b0 32 v) (h : DataW.Trod enc Try.prog w base spare held 32 v d p) :
    ∃ (Al : Option Addr) (nl cl : Nat) (wa la lb : Int) (Ab : Option Addr) (nb cb : Nat) (wrg : Int) (lv : List Lv) (bl : List Bal) (SA : Option Addr) (ns sc : Nat) (lk : Int) (us : List Int) (SB : Option Addr) (nt sd : Nat) (lj : Int) (ut : List Int), v = .agg #[.slice Al nl cl, .int .i64 wa, .int .i64 la, .int .i64 lb, .slice Ab nb cb, .int .i64 wrg, .slice SA ns sc, .int .i64 lk, .slice SB nt sd, .int .i64 lj] ∧ LvsAt w Al nl lv ∧ BasAt w Ab nb bl ∧ IntsAt w SA ns us ∧ IntsAt w SB nt ut := by
  obtain ⟨cs, rfl, hsz⟩ := okWide_struct Try.underlying32 hv
  obtain ⟨fuel, hf⟩ := h
  obtain ⟨xs, m, _, -, hl, hxl, hf⟩ := DataW.trod_struct Try.underlying32 hf
  have hsz2 : cs.size = 10 := hsz.trans (by kernel_rfl)
  have hx2 : xs.length = 3 := hxl
  obtain ⟨l⟩ := cs
  have hl2 : l.length = 10 := hsz2
  match l, hl2, xs, hx2 with
  | [c0, c1, c2, c3, c4, c5, c6, c7, c8, c9], _, [y0, y1, y2], _ =>
    have k1 : Try.prog.cellsOf 27 = 6 := by kernel_rfl
    have k2 : Try.prog.cellsOf 30 = 2 := by kernel_rfl
    have h0 : DataW.trod enc Try.prog w base spare held m 27 [c0, c1, c2, c3, c4, c5] = some y0 := by have := hf 0 _ rfl; simpa [Value.cells, k1] using this
    have h1 : DataW.trod enc Try.prog w base spare held m 30 [c6, c7] = some y1 := by have := hf 1 _ rfl; simpa [Value.cells, k2] using this
    have h2 : DataW.trod enc Try.prog w base spare held m 30 [c8, c9] = some y2 := by have := hf 2 _ rfl; simpa [Value.cells, k2] using this
    obtain ⟨Al, nl, cl, wa, la, lb, Ab, nb, cb, wrg, lv, bl, e0, s0, s1⟩ := open_machineT _ _ _ h0
    obtain ⟨SA, ns, sc, lk, us, e1, s2⟩ := open_settingT _ _ _ h1
    obtain ⟨SB, nt, sd, lj, ut, e2, s3⟩ := open_settingT _ _ _ h2
    simp at e0 e1 e2
    obtain ⟨a0, a1, a2, a3, a4, a5⟩ := e0
    obtain ⟨a6, a7⟩ := e1
    obtain ⟨a8, a9⟩ := e2
    subst a0 a1 a2 a3 a4 a5 a6 a7 a8 a9
    exact ⟨Al, nl, cl, wa, la, lb, Ab, nb, cb, wrg, lv, bl, SA, ns, sc, lk, us, SB, nt, sd, lj, ut, rfl, s0, s1, s2, s3⟩
set_option maxRecDepth 100000 in
theorem open_pull5 {r : Reach} {b0 : Nat} {v : Value} {d : DataW H} {p : List MemPlace} (hv : Value.okWide Try.prog w r b0 34 v) (h : DataW.Trod enc Try.prog w base spare held 34 v d p) :
    ∃ a b c : Int, v = .agg #[.int .i64 a, .int .i64 b, .int .i64 c] := by
  obtain ⟨cs, rfl, hsz⟩ := okWide_struct Try.underlying34 hv
  obtain ⟨fuel, hf⟩ := h
  obtain ⟨xs, m, _, -, hl, hxl, hf⟩ := DataW.trod_struct Try.underlying34 hf
  have hsz2 : cs.size = 3 := hsz.trans (by kernel_rfl)
  have hx2 : xs.length = 3 := hxl
  obtain ⟨l⟩ := cs
  have hl2 : l.length = 3 := hsz2
  match l, hl2, xs, hx2 with
  | [c0, c1, c2], _, [y0, y1, y2], _ =>
    have k1 : Try.prog.cellsOf 3 = 1 := by kernel_rfl
    have h0 : DataW.trod enc Try.prog w base spare held m 3 [c0] = some y0 := by have := hf 0 _ rfl; simpa [Value.cells, k1] using this
    have h1 : DataW.trod enc Try.prog w base spare held m 3 [c1] = some y1 := by have := hf 1 _ rfl; simpa [Value.cells, k1] using this
    have h2 : DataW.trod enc Try.prog w base spare held m 3 [c2] = some y2 := by have := hf 2 _ rfl; simpa [Value.cells, k1] using this
    obtain ⟨z0, e0, -, -⟩ := DataW.trod_int Try.underlying3 h0
    obtain ⟨z1, e1, -, -⟩ := DataW.trod_int Try.underlying3 h1
    obtain ⟨z2, e2, -, -⟩ := DataW.trod_int Try.underlying3 h2
    simp at e0 e1 e2
    subst e0 e1 e2
    exact ⟨z0, z1, z2, rfl⟩
end

end Go.Proofs.Ytcinhibmohkeiaa
