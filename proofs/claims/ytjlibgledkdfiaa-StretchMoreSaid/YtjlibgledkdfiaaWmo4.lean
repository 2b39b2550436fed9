/- StretchMore of the statements (layer 4), walked. -/
import Derived.Test.YtjlibgledkdfiaaIn4
import Derived.Test.YtjlibgledkdfiaaWx4
import Derived.Shelf.Abstract
import Derived.Laws.EntriesVeiled
import Derived.Handy
import Derived.Deep.DrawnRows
import Derived.Deep.DeepCutAuto
namespace Go.Proofs.Ytjlibgledkdfiaa
open Go.RowKit
open Go.Sort (grow)
set_option linter.unusedVariables false

def mn24 (a b : Int) : Int := if b < a then b else a
def mx24 (a b : Int) : Int := if a < b then b else a
theorem min24_int {x y : Int} : Builtin.min2 (.int .i64 x) (.int .i64 y) = pure (.int .i64 (mn24 x y)) := rfl
theorem max24_int {x y : Int} : Builtin.max2 (.int .i64 x) (.int .i64 y) = pure (.int .i64 (mx24 x y)) := rfl
def mn54 (a b c d e : Int) : Int := mn24 (mn24 (mn24 (mn24 a b) c) d) e
def mx54 (a b c d e : Int) : Int := mx24 (mx24 (mx24 (mx24 a b) c) d) e
theorem mn54_ge {a b c d e : Int} (h : ¬ mn54 a b c d e < 0) : 0 ≤ a ∧ 0 ≤ b ∧ 0 ≤ c ∧ 0 ≤ d ∧ 0 ≤ e := by
  have g : ∀ {x y : Int}, ¬ mn24 x y < 0 → ¬ x < 0 ∧ 0 ≤ y := fun {x y} h => by unfold mn24 at h; split at h <;> omega
  unfold mn54 at h
  obtain ⟨h, h4⟩ := g h
  obtain ⟨h, h3⟩ := g h
  obtain ⟨h, h2⟩ := g h
  obtain ⟨h, h1⟩ := g h
  exact ⟨by omega, h1, h2, h3, h4⟩
theorem mx54_le {a b c d e k : Int} (h : ¬ k < mx54 a b c d e) : a ≤ k ∧ b ≤ k ∧ c ≤ k ∧ d ≤ k ∧ e ≤ k := by
  have g : ∀ {x y : Int}, ¬ k < mx24 x y → ¬ k < x ∧ y ≤ k := fun {x y} h => by unfold mx24 at h; split at h <;> omega
  unfold mx54 at h
  obtain ⟨h, h4⟩ := g h
  obtain ⟨h, h3⟩ := g h
  obtain ⟨h, h2⟩ := g h
  obtain ⟨h, h1⟩ := g h
  exact ⟨by omega, h1, h2, h3, h4⟩
theorem run_min54 {P : Program} {w : World} (ts : Array TypeId) (t : TypeId) (a b c d e : Int) : (Builtin.min_ ts t #[.int .i64 a, .int .i64 b, .int .i64 c, .int .i64 d, .int .i64 e]).run P w = .ok (.int .i64 (mn54 a b c d e)) w := by
  simp [Builtin.min_, min24_int, mn54]
theorem run_max54 {P : Program} {w : World} (ts : Array TypeId) (t : TypeId) (a b c d e : Int) : (Builtin.max_ ts t #[.int .i64 a, .int .i64 b, .int .i64 c, .int .i64 d, .int .i64 e]).run P w = .ok (.int .i64 (mx54 a b c d e)) w := by
  simp [Builtin.max_, max24_int, mx54]
attribute [local go_sem] run_min54 run_max54
theorem wk4_mono {p : P4} {wh : Int} {u : W4} {l : Int} : ∀ {k n : Nat}, k ≤ n → wk4 p wh u l k ≤ wk4 p wh u l n
  | k, 0, h => by obtain rfl : k = 0 := by omega
                  exact Nat.le_refl _
  | k, n + 1, h => by
    by_cases e : k = n + 1
    · subst e; exact Nat.le_refl _
    · have := wk4_mono (p := p) (wh := wh) (u := u) (l := l) (k := k) (n := n) (by omega)
      rw [wk4_succ]
      omega
theorem wk4_le_of {p q : P4} {wh : Int} {u : W4} {l : Int} : ∀ {k : Nat}, (∀ j, j < k → (reAt q.res j).wh = (reAt p.res j).wh ∧ (rg4 p u l j = true → rg4 q u l j = true)) → wk4 q wh u l k ≤ wk4 p wh u l k
  | 0, _ => Nat.le_refl _
  | k + 1, h => by
    have ih := wk4_le_of (p := p) (q := q) (wh := wh) (u := u) (l := l) (k := k) (fun j hj => h j (by omega))
    obtain ⟨h1, h2⟩ := h k (by omega)
    rw [wk4_succ, wk4_succ, h1]
    cases e : rg4 p u l k
    · cases rg4 q u l k <;> cases decide ((reAt p.res k).wh = wh) <;> simp <;> omega
    · rw [h2 e]
      cases decide ((reAt p.res k).wh = wh) <;> simp <;> omega
theorem reAt_pre {l m : List Re4} {j : Nat} (h : j < l.length) : reAt (l ++ m) j = reAt l j := by
  unfold reAt
  rw [List.getD_eq_getElem?_getD, List.getD_eq_getElem?_getD, List.getElem?_append_left h]
/-- with one more reading there are not more truths -/
theorem more_sub1 {p : P4} {x : Re4} : Sub4 ⟨p.ir, p.glo, p.ghi, p.wr, p.rods, p.res ++ [x]⟩ p := by
  intro u b a ⟨hu, hb, ha, hw⟩
  have hl : ∀ wh l, wr4 p wh u l ≤ wr4 ⟨p.ir, p.glo, p.ghi, p.wr, p.rods, p.res ++ [x]⟩ wh u l := fun wh l => by
    unfold wr4
    refine Nat.le_trans (wk4_le_of (p := ⟨p.ir, p.glo, p.ghi, p.wr, p.rods, p.res ++ [x]⟩) (q := p) (k := p.res.length) fun j hj => ?_) (wk4_mono (by simp))
    have e : reAt (p.res ++ [x]) j = reAt p.res j := reAt_pre hj
    refine ⟨by rw [e], fun h => ?_⟩
    unfold rg4 at h ⊢
    simp only [e] at h
    exact h
  refine ⟨hu, hb, ha, ?_⟩
  have h1 := hl 1 b
  have h2 := hl 2 a
  simp only at hw
  omega
theorem rt4_wide {ir gr : Int} {x : Re4} {l r m1 m2 : Int} (h1 : 0 ≤ m1) (h2 : 0 ≤ m2) (h : rt4 ir gr x l r = true) : rt4 ir gr (wdRe x m1 m2) l r = true := by
  unfold rt4 at h ⊢
  rw [List.any_eq_true] at h ⊢
  obtain ⟨t, ht, hk⟩ := h
  have := ups_mem.1 ht
  refine ⟨t, ups_mem.2 (by simp only [wdRe]; omega), ?_⟩
  unfold ok4t at hk ⊢
  simp only [Bool.and_eq_true, decide_eq_true_eq] at hk ⊢
  simp only [wdRe, sy4] at hk ⊢
  generalize dt4 ir gr l (x.ct * r + x.rs) t = d at hk ⊢
  omega
theorem wdRs_len {rs : List Ro4} {m3 m4 : Int} : (wdRs rs m3 m4).length = rs.length := by unfold wdRs; split <;> simp
theorem wdDs_len {ds : List Re4} {m0 m1 m2 : Int} : (wdDs ds m0 m1 m2).length = ds.length := by unfold wdDs; split <;> simp
theorem wdRs_at {rs : List Ro4} {m3 m4 : Int} (k : Nat) : (roAt (wdRs rs m3 m4) k).lg = (roAt rs k).lg ∧ (roAt (wdRs rs m3 m4) k).gr = (roAt rs k).gr ∧ (0 ≤ m4 → (roAt rs k).we ≤ (roAt (wdRs rs m3 m4) k).we) := by
  unfold wdRs
  split
  · rename_i h
    rw [roAt_set (by omega)]
    split
    · rename_i e
      subst e
      simp only [wdRo]
      exact ⟨trivial, trivial, fun _ => by omega⟩
    · exact ⟨rfl, rfl, fun _ => Int.le_refl _⟩
  · exact ⟨rfl, rfl, fun _ => Int.le_refl _⟩
theorem wdDs_at {ds : List Re4} {m0 m1 m2 : Int} (k : Nat) : reAt (wdDs ds m0 m1 m2) k = reAt ds k ∨ reAt (wdDs ds m0 m1 m2) k = wdRe (reAt ds k) m1 m2 := by
  unfold wdDs
  split
  · rename_i h
    rw [reAt_set (by omega)]
    split
    · rename_i e
      subst e
      exact .inr rfl
    · exact .inl rfl
  · exact .inl rfl
/-- where more is possible no truth is lost -/
theorem more_sub2 {p : P4} {m0 m1 m2 m3 m4 m5 m6 : Int} (hp : p.rods.length ≤ 4) (h1 : 0 ≤ m1) (h2 : 0 ≤ m2) (h4 : 0 ≤ m4) (h5 : 0 ≤ m5) (h6 : 0 ≤ m6) : Sub4 p (wdP p m0 m1 m2 m3 m4 m5 m6) := by
  intro u b a ⟨hu, hb, ha, hw⟩
  have hl : ∀ wh l, wr4 (wdP p m0 m1 m2 m3 m4 m5 m6) wh u l ≤ wr4 p wh u l := fun wh l => by
    unfold wr4
    rw [show (wdP p m0 m1 m2 m3 m4 m5 m6).res.length = p.res.length from wdDs_len]
    refine wk4_le_of fun j hj => ?_
    have e1 : (wdP p m0 m1 m2 m3 m4 m5 m6).res = wdDs p.res m0 m1 m2 := rfl
    have e2 : (wdP p m0 m1 m2 m3 m4 m5 m6).rods = wdRs p.rods m3 m4 := rfl
    have e3 : (wdP p m0 m1 m2 m3 m4 m5 m6).ir = p.ir := rfl
    unfold rg4
    rw [e1, e2, e3]
    rcases wdDs_at (ds := p.res) (m0 := m0) (m1 := m1) (m2 := m2) j with e | e
    · rw [e, (wdRs_at _).2.1]
      exact ⟨rfl, fun h => h⟩
    · rw [e]
      refine ⟨rfl, fun h => ?_⟩
      rw [(wdRs_at _).2.1]
      exact rt4_wide h1 h2 h
  have hu' := (mem_ws4 hp).1 hu
  refine ⟨(mem_ws4 (by rw [show (wdP p m0 m1 m2 m3 m4 m5 m6).rods.length = p.rods.length from wdRs_len]; exact hp)).2 ⟨fun j hj => ?_, fun j hj hj' => hu'.2 j hj (by rwa [show (wdP p m0 m1 m2 m3 m4 m5 m6).rods.length = p.rods.length from wdRs_len] at hj')⟩, ?_, ?_, ?_⟩
  · rw [show (wdP p m0 m1 m2 m3 m4 m5 m6).rods.length = p.rods.length from wdRs_len] at hj
    obtain ⟨k1, -, k3⟩ := wdRs_at (rs := p.rods) (m3 := m3) (m4 := m4) j
    have := hu'.1 j hj
    have := k3 h4
    rw [show (wdP p m0 m1 m2 m3 m4 m5 m6).rods = wdRs p.rods m3 m4 from rfl, k1]
    omega
  · have := ups_mem.1 hb
    exact ups_mem.2 (by simp only [wdP]; omega)
  · have := ups_mem.1 ha
    exact ups_mem.2 (by simp only [wdP]; omega)
  · have k1 := hl 1 b
    have k2 := hl 2 a
    simp only [wdP] at *
    omega
set_option maxRecDepth 100000 in
set_option maxHeartbeats 6400000 in
theorem strmore4_c (Ar : Option Addr) (nr cr : Nat) (Ad : Option Addr) (nd cd : Nat) (p : P4) (x : Re4) (m0 m1 m2 m3 m4 m5 m6 : Int) (w : World) (HM : MemP Ar nr Ad nd p w) :
    Calls Try.prog 6 #[.agg #[.int .i64 p.ir, .int .i64 p.glo, .int .i64 p.ghi, .slice Ar nr cr, .slice Ad nd cd, .int .i64 p.wr], .agg #[.int .i64 x.wh, .int .i64 x.rd, .int .i64 x.ct, .int .i64 x.rs, .int .i64 x.of, .int .i64 x.lo, .int .i64 x.hi, .int .i64 m0, .int .i64 m1, .int .i64 m2, .int .i64 m3, .int .i64 m4, .int .i64 m5, .int .i64 m6]] w
      fun e w' => e = .returned (.bool true) ∧ Below w.heap.size w w' := by
  have HRD := Lib.hid (fun V (hV : Below w.heap.size w V) => ready4_c Ar nr cr Ad nd cd p V (HM.later hV))
  cases hrd : ready4 p
  · rw [hrd] at HRD
    clear hrd HM
    obtain ⟨ir, glo, ghi, wrg, rods, res⟩ := p
    obtain ⟨xw, xr, xc, xs, xo, xl, xh⟩ := x
    simp only at HRD ⊢
    go_enter Try.func6, Try.ntmps6
    go_upto_region 1 with (fail)
    go_name_world X hX
    have BX : Below w.heap.size w X := (al2 hX).1
    have zX := (al2 hX).2
    have HPX : Hid (Blk X w.heap.size 27 #[.int .i64 ir, .int .i64 glo, .int .i64 ghi, .slice Ar nr cr, .slice Ad nd cd, .int .i64 wrg]) := by rw [← hX]; exact Lib.hid ((Blk.new w _ _).alloc _)
    have HTX : Hid (Blk X (w.heap.size + 1) 50 #[.int .i64 xw, .int .i64 xr, .int .i64 xc, .int .i64 xs, .int .i64 xo, .int .i64 xl, .int .i64 xh, .int .i64 m0, .int .i64 m1, .int .i64 m2, .int .i64 m3, .int .i64 m4, .int .i64 m5, .int .i64 m6]) := by
      rw [← hX]
      have := Blk.new (w.alloc (.cells #[.int .i64 ir, .int .i64 glo, .int .i64 ghi, .slice Ar nr cr, .slice Ad nd cd, .int .i64 wrg] 27)) 50 #[.int .i64 xw, .int .i64 xr, .int .i64 xc, .int .i64 xs, .int .i64 xo, .int .i64 xl, .int .i64 xh, .int .i64 m0, .int .i64 m1, .int .i64 m2, .int .i64 m3, .int .i64 m4, .int .i64 m5, .int .i64 m6]
      rw [World.size_alloc] at this
      exact Lib.hid this
    have qX := HPX.out.cell
    have lX := HPX.out.lt
    have pX := HTX.out.cell
    have gX := HTX.out.lt
    have ZX := Lib.hid zX
    clear hX zX
    go_wp2_with (first | (go_at_call 12; refine (HRD.out X BX).mono ?_; (rintro e w1 ⟨rfl, hb1⟩); (have B1 := BX.trans (hb1.mono BX.size)); (have HT1 := Lib.hid (HTX.out.below hb1 HTX.out.lt)); (have p1 := HT1.out.cell); (have g1 := HT1.out.lt); clear hb1 qX lX pX gX) | (go_at_call 13; refine (works4_c w1).mono ?_; (rintro e w9 ⟨rfl, hb9⟩); (have B9 := B1.trans (hb9.mono B1.size)); clear hb9))
    go_ret
    exact ⟨rfl, B9⟩
  rw [hrd] at HRD
  by_cases hmn : mn54 m1 m2 m4 m5 m6 < 0
  · have hB : decide (mn54 m1 m2 m4 m5 m6 < 0) = true := decide_eq_true hmn
    clear hrd HM hmn
    obtain ⟨ir, glo, ghi, wrg, rods, res⟩ := p
    obtain ⟨xw, xr, xc, xs, xo, xl, xh⟩ := x
    simp only at HRD ⊢
    go_enter Try.func6, Try.ntmps6
    go_upto_region 1 with (fail)
    go_name_world X hX
    have BX : Below w.heap.size w X := (al2 hX).1
    have zX := (al2 hX).2
    have HPX : Hid (Blk X w.heap.size 27 #[.int .i64 ir, .int .i64 glo, .int .i64 ghi, .slice Ar nr cr, .slice Ad nd cd, .int .i64 wrg]) := by rw [← hX]; exact Lib.hid ((Blk.new w _ _).alloc _)
    have HTX : Hid (Blk X (w.heap.size + 1) 50 #[.int .i64 xw, .int .i64 xr, .int .i64 xc, .int .i64 xs, .int .i64 xo, .int .i64 xl, .int .i64 xh, .int .i64 m0, .int .i64 m1, .int .i64 m2, .int .i64 m3, .int .i64 m4, .int .i64 m5, .int .i64 m6]) := by
      rw [← hX]
      have := Blk.new (w.alloc (.cells #[.int .i64 ir, .int .i64 glo, .int .i64 ghi, .slice Ar nr cr, .slice Ad nd cd, .int .i64 wrg] 27)) 50 #[.int .i64 xw, .int .i64 xr, .int .i64 xc, .int .i64 xs, .int .i64 xo, .int .i64 xl, .int .i64 xh, .int .i64 m0, .int .i64 m1, .int .i64 m2, .int .i64 m3, .int .i64 m4, .int .i64 m5, .int .i64 m6]
      rw [World.size_alloc] at this
      exact Lib.hid this
    have qX := HPX.out.cell
    have lX := HPX.out.lt
    have pX := HTX.out.cell
    have gX := HTX.out.lt
    have ZX := Lib.hid zX
    clear hX zX
    go_wp2_with (first | (go_at_call 12; refine (HRD.out X BX).mono ?_; (rintro e w1 ⟨rfl, hb1⟩); (have B1 := BX.trans (hb1.mono BX.size)); (have HT1 := Lib.hid (HTX.out.below hb1 HTX.out.lt)); (have p1 := HT1.out.cell); (have g1 := HT1.out.lt); clear hb1 qX lX pX gX) | (go_at_call 13; refine (works4_c w1).mono ?_; (rintro e w9 ⟨rfl, hb9⟩); (have B9 := B1.trans (hb9.mono B1.size)); clear hb9))
    go_ret
    exact ⟨rfl, B9⟩
  have hmnB : decide (mn54 m1 m2 m4 m5 m6 < 0) = false := decide_eq_false hmn
  by_cases hmx : 1000 < mx54 m1 m2 m4 m5 m6
  · have hB : decide (1000 < mx54 m1 m2 m4 m5 m6) = true := decide_eq_true hmx
    clear hrd HM hmn hmx
    obtain ⟨ir, glo, ghi, wrg, rods, res⟩ := p
    obtain ⟨xw, xr, xc, xs, xo, xl, xh⟩ := x
    simp only at HRD ⊢
    go_enter Try.func6, Try.ntmps6
    go_upto_region 1 with (fail)
    go_name_world X hX
    have BX : Below w.heap.size w X := (al2 hX).1
    have zX := (al2 hX).2
    have HPX : Hid (Blk X w.heap.size 27 #[.int .i64 ir, .int .i64 glo, .int .i64 ghi, .slice Ar nr cr, .slice Ad nd cd, .int .i64 wrg]) := by rw [← hX]; exact Lib.hid ((Blk.new w _ _).alloc _)
    have HTX : Hid (Blk X (w.heap.size + 1) 50 #[.int .i64 xw, .int .i64 xr, .int .i64 xc, .int .i64 xs, .int .i64 xo, .int .i64 xl, .int .i64 xh, .int .i64 m0, .int .i64 m1, .int .i64 m2, .int .i64 m3, .int .i64 m4, .int .i64 m5, .int .i64 m6]) := by
      rw [← hX]
      have := Blk.new (w.alloc (.cells #[.int .i64 ir, .int .i64 glo, .int .i64 ghi, .slice Ar nr cr, .slice Ad nd cd, .int .i64 wrg] 27)) 50 #[.int .i64 xw, .int .i64 xr, .int .i64 xc, .int .i64 xs, .int .i64 xo, .int .i64 xl, .int .i64 xh, .int .i64 m0, .int .i64 m1, .int .i64 m2, .int .i64 m3, .int .i64 m4, .int .i64 m5, .int .i64 m6]
      rw [World.size_alloc] at this
      exact Lib.hid this
    have qX := HPX.out.cell
    have lX := HPX.out.lt
    have pX := HTX.out.cell
    have gX := HTX.out.lt
    have ZX := Lib.hid zX
    clear hX zX
    go_wp2_with (first | (go_at_call 12; refine (HRD.out X BX).mono ?_; (rintro e w1 ⟨rfl, hb1⟩); (have B1 := BX.trans (hb1.mono BX.size)); (have HT1 := Lib.hid (HTX.out.below hb1 HTX.out.lt)); (have p1 := HT1.out.cell); (have g1 := HT1.out.lt); clear hb1 qX lX pX gX) | (go_at_call 13; refine (works4_c w1).mono ?_; (rintro e w9 ⟨rfl, hb9⟩); (have B9 := B1.trans (hb9.mono B1.size)); clear hb9))
    go_ret
    exact ⟨rfl, B9⟩
  have hmxB : decide (1000 < mx54 m1 m2 m4 m5 m6) = false := decide_eq_false hmx
  have g1 := mn54_ge hmn
  have g2 := mx54_le hmx
  have rdy := ready4_iff hrd
  have hr := HM.hr.1
  have hd := HM.hd.1
  have ok : Ok4 nr nd p := ok4_of rdy.ck hr hd
  have hnr4 := ok.nr4
  have hnd8 := ok.nd8
  have HCP := Lib.hid (fun V (hV : Below w.heap.size w V) => Copy4_c Ar nr cr Ad nd cd p V (by omega) (by omega) (HM.later hV))
  have HWD := Lib.hid (fun V (hV : Below w.heap.size w V) => wider4_c Ar nr cr Ad nd cd p x m0 m1 m2 m3 m4 m5 m6 V (HM.later hV) ok (by omega) (by omega) (by omega) (by omega) (by omega))
  have HI2 := Lib.hid (fun A1 c1 A2 c2 V (hV : Below w.heap.size w V) (HQ : MemP A1 nr A2 nd (wdP p m0 m1 m2 m3 m4 m5 m6) V) => inside4_c Ar nr cr Ad nd cd p A1 nr c1 A2 nd c2 (wdP p m0 m1 m2 m3 m4 m5 m6) V (HM.later hV) HQ (fun _ _ => ⟨more_sub2 (by omega) (by omega) (by omega) (by omega) (by omega) (by omega), rfl⟩))
  have HI1 := Lib.hid (fun A1 c1 A2 c2 V (hV : Below w.heap.size w V) (HO : MemP A1 nr A2 (nd + 1) ⟨p.ir, p.glo, p.ghi, p.wr, p.rods, p.res ++ [x]⟩ V) => inside4_c A1 nr c1 A2 (nd + 1) c2 ⟨p.ir, p.glo, p.ghi, p.wr, p.rods, p.res ++ [x]⟩ Ar nr cr Ad nd cd p V HO (HM.later hV) (fun _ _ => ⟨more_sub1, rfl⟩))
  have HMQ := Lib.hid (fun base A1 c1 A2 c2 V (h : PuOwn base A1 nr c1 A2 nd c2 (wdRs p.rods m3 m4) (wdDs p.res m0 m1 m2) V) => (PuOwn.mem (p := wdP p m0 m1 m2 m3 m4 m5 m6) h (wdRs_len.trans hr) (wdDs_len.trans hd)))
  have HMO := Lib.hid (fun base A1 c1 A2 c2 V (h : PuOwn base A1 nr c1 A2 (nd + 1) c2 p.rods (p.res ++ [x]) V) => (PuOwn.mem (p := ⟨p.ir, p.glo, p.ghi, p.wr, p.rods, p.res ++ [x]⟩) h hr (by simp; exact hd)))
  have HLEN : Hid ((p.res ++ [x]).length = nd + 1) := Lib.hid (by simp; exact hd)
  clear hrd HM hmn hmx g1 g2 rdy hr hd ok
  obtain ⟨ir, glo, ghi, wrg, rods, res⟩ := p
  obtain ⟨xw, xr, xc, xs, xo, xl, xh⟩ := x
  simp only [wdP] at HRD HCP HWD HI1 HI2 HMQ HMO HLEN ⊢
  go_enter Try.func6, Try.ntmps6
  go_upto_region 1 with (fail)
  go_name_world X hX
  have BX : Below w.heap.size w X := (al2 hX).1
  have zX := (al2 hX).2
  have HPX : Hid (Blk X w.heap.size 27 #[.int .i64 ir, .int .i64 glo, .int .i64 ghi, .slice Ar nr cr, .slice Ad nd cd, .int .i64 wrg]) := by rw [← hX]; exact Lib.hid ((Blk.new w _ _).alloc _)
  have HTX : Hid (Blk X (w.heap.size + 1) 50 #[.int .i64 xw, .int .i64 xr, .int .i64 xc, .int .i64 xs, .int .i64 xo, .int .i64 xl, .int .i64 xh, .int .i64 m0, .int .i64 m1, .int .i64 m2, .int .i64 m3, .int .i64 m4, .int .i64 m5, .int .i64 m6]) := by
    rw [← hX]
    have := Blk.new (w.alloc (.cells #[.int .i64 ir, .int .i64 glo, .int .i64 ghi, .slice Ar nr cr, .slice Ad nd cd, .int .i64 wrg] 27)) 50 #[.int .i64 xw, .int .i64 xr, .int .i64 xc, .int .i64 xs, .int .i64 xo, .int .i64 xl, .int .i64 xh, .int .i64 m0, .int .i64 m1, .int .i64 m2, .int .i64 m3, .int .i64 m4, .int .i64 m5, .int .i64 m6]
    rw [World.size_alloc] at this
    exact Lib.hid this
  have qX := HPX.out.cell
  have lX := HPX.out.lt
  have pX := HTX.out.cell
  have gX := HTX.out.lt
  have ZX := Lib.hid zX
  clear hX zX
  go_upto_region 3 with (go_at_call 12; refine (HRD.out X BX).mono ?_; (rintro e w1 ⟨rfl, hb1⟩); (have B1 := BX.trans (hb1.mono BX.size)); (have HP1 := Lib.hid (HPX.out.below hb1 HPX.out.lt)); (have HT1 := Lib.hid (HTX.out.below hb1 HTX.out.lt)); (have q1 := HP1.out.cell); (have l1 := HP1.out.lt); (have p1 := HT1.out.cell); (have g1 := HT1.out.lt); clear hb1 qX lX pX gX)
  go_upto_region 4 with (go_at_call 11; refine (HCP.out w1 B1).mono ?_; (rintro e w2 ⟨A1, k1, A2, k2, rfl, hO, hb2⟩); (have B2 := B1.trans (hb2.mono B1.size)); (have HP2 := Lib.hid (HP1.out.below hb2 HP1.out.lt)); (have HT2 := Lib.hid (HT1.out.below hb2 HT1.out.lt)); (have HO2 := Lib.hid hO); (have z2 := hb2.size); clear hb2 hO q1 l1 p1 g1)
  go_name_world Y hY
  have bY : Below w2.heap.size w2 Y := (al1 hY).1
  have zY : Y.heap.size = w2.heap.size + 1 := (al1 hY).2
  have HOY := Lib.hid (HO2.out.later bY)
  have HPY := Lib.hid (HP2.out.below bY HP2.out.lt)
  have HTY := Lib.hid (HT2.out.below bY HT2.out.lt)
  have BY := B2.trans (bY.mono B2.size)
  have HBY : Hid (Blk Y w2.heap.size 27 #[.int .i64 ir, .int .i64 glo, .int .i64 ghi, .slice A1 nr k1, .slice A2 nd k2, .int .i64 wrg]) := by rw [← hY]; exact Lib.hid (Blk.new _ _ _)
  have HOL : Hid (∀ k, ((Value.slice A1 nr k1).ownBlock = some k ∨ (Value.slice A2 nd k2).ownBlock = some k) → w1.heap.size ≤ k ∧ k ≠ w2.heap.size) := Lib.hid (fun k h => by have := HO2.out.blocks k h; omega)
  have hX1 : w.heap.size + 1 < w1.heap.size := HT1.out.lt
  have BYs := Lib.hid zY
  have ne0 : w.heap.size ≠ w2.heap.size := by omega
  have ne1 : w.heap.size + 1 ≠ w2.heap.size := by omega
  have kY := HBY.out.cell
  have fY := HBY.out.frozen
  have lY := HBY.out.lt
  have pY := HTY.out.cell
  have gY := HTY.out.lt
  clear hY bY zY
  go_upto_region 5 with (at_builtin; go_must (refine wpList_append_B _ (d := (⟨0, 0, 0, 0, 0, 0, 0⟩ : Re4)) rfl (.tmp 41) (.tmp 44) _ rfl w1.heap.size _ 7 56 reE encE4_len encE4_one (.slice A2 nd k2) (Value.slice A2 nd k2).ownBlock nd res rfl rfl ?ow _ 1 _ [⟨xw, xr, xc, xs, xo, xl, xh⟩] rfl ?sl ?sz ?sl2 ?sz2 ?_; (case ow => exact HOY.out.hl.alloc _); (case sl => exact sl_new encE4_len (by first | rfl | simp) rfl rfl); (case sz => omega); (case sl2 => omega); (case sz2 => go_size); (rintro v8 w8 ho8 hg8 ha8); (obtain ⟨A8, C8, rfl, -, -⟩ := SlAt.of_own (d := (⟨0, 0, 0, 0, 0, 0, 0⟩ : Re4)) encE4_len ho8 HLEN.out); (have HO8 := Lib.hid ho8); (have HR8 := Lib.hid ((HOY.out.hp.alloc _).kept hg8 HOY.out.ne1)); (have HN8 := Lib.hid ha8); (have HB8 := Lib.hid ((HBY.out.alloc _).grown hg8 (fun e => (HOL.out _ (.inr e.symm)).2 rfl))); (have HP8 := Lib.hid ((HPY.out.alloc _).grown hg8 (fun e => by have := (HOL.out _ (.inr e.symm)).1; omega))); (have HT8 := Lib.hid ((HTY.out.alloc _).grown hg8 (fun e => by have := (HOL.out _ (.inr e.symm)).1; omega))); (have B8 : Below w.heap.size w w8 := Below.grown (by (repeat first | with_reducible assumption | with_reducible exact Below.refl _ _ | (with_reducible refine Below.alloc ?_ ?side _; case side => (first | omega | (with_reducible exact Below.size (by assumption)) | (simp; done) | (simp; omega))) | (with_reducible refine Below.setCell ?_ ?side _; case side => (first | omega | (with_reducible exact Below.size (by assumption)) | (simp; done) | (simp; omega))) | with_reducible refine Below.drew ?_ | with_reducible refine below_drewN ?_ _ | (with_reducible refine below_step (by assumption) ?side ?_; case side => (first | omega | (with_reducible exact Below.size (by assumption)) | (simp; done) | (simp; omega))))) hg8 (by go_size) (fun k hk => by have := (HOL.out k (.inr hk)).1; omega)); (have k8 := HB8.out.cell); (have f8 := HB8.out.frozen); (have l8 := HB8.out.lt); clear ho8 hg8 ha8 kY fY pY gY lY))
  go_name_world Z hZ
  have HBZ : Hid (Blk Z w2.heap.size 27 #[.int .i64 ir, .int .i64 glo, .int .i64 ghi, .slice A1 nr k1, .slice A8 (nd + 1) C8, .int .i64 wrg]) := Lib.hid (by rw [← hZ]; simpa using HB8.out.set_ 4 (.slice A8 (nd + 1) C8))
  have HPZ : Hid (Blk Z w.heap.size 27 #[.int .i64 ir, .int .i64 glo, .int .i64 ghi, .slice Ar nr cr, .slice Ad nd cd, .int .i64 wrg]) := Lib.hid (by rw [← hZ]; exact HP8.out.far ne0 _)
  have HTZ : Hid (Blk Z (w.heap.size + 1) 50 #[.int .i64 xw, .int .i64 xr, .int .i64 xc, .int .i64 xs, .int .i64 xo, .int .i64 xl, .int .i64 xh, .int .i64 m0, .int .i64 m1, .int .i64 m2, .int .i64 m3, .int .i64 m4, .int .i64 m5, .int .i64 m6]) := Lib.hid (by rw [← hZ]; exact HT8.out.far ne1 _)
  have BZ : Below w.heap.size w Z := by rw [← hZ]; exact B8.setCell (by show w.heap.size ≤ w2.heap.size; omega) _
  have HOZ := Lib.hid (HMO.out w1.heap.size A1 k1 A8 C8 Z (by
    have h8 : ∀ k, (Value.slice A8 (nd + 1) C8).ownBlock = some k → k ≠ w2.heap.size := fun k hk => by
      rcases HN8.out with h | h
      · exact (HOL.out k (.inr (h.symm.trans hk))).2
      · rw [hk] at h
        have := Option.some.inj h
        simp at this
        have := BYs.out
        omega
    refine ⟨by rw [← hZ]; exact own_set HR8.out (fun k hk => (HOL.out k (.inl hk)).2), by rw [← hZ]; exact own_set HO8.out h8, fun k h h' => ?_⟩
    rcases HN8.out with h2 | h2
    · exact HOY.out.ne k h (h2.symm.trans h')
    · have h3 := (HOY.out.hp.lt k h).2
      rw [h'] at h2
      have := Option.some.inj h2
      simp at this
      omega))
  clear hZ HB8 HP8 HT8 HR8 HO8 HN8 k8 f8 l8 B8 HOY HPY HTY HBY
  have hS : (∀ j, Z.drew.cell? ⟨w2.heap.size, j, none⟩ = #[Value.int .i64 ir, .int .i64 glo, .int .i64 ghi, .slice A1 nr k1, .slice A8 (nd + 1) C8, .int .i64 wrg][j]?) ∧ (∀ j, Z.drew.cell? ⟨w.heap.size, j, none⟩ = #[Value.int .i64 ir, .int .i64 glo, .int .i64 ghi, .slice Ar nr cr, .slice Ad nd cd, .int .i64 wrg][j]?) ∧ (∀ j, Z.drew.cell? ⟨w.heap.size + 1, j, none⟩ = #[Value.int .i64 xw, .int .i64 xr, .int .i64 xc, .int .i64 xs, .int .i64 xo, .int .i64 xl, .int .i64 xh, .int .i64 m0, .int .i64 m1, .int .i64 m2, .int .i64 m3, .int .i64 m4, .int .i64 m5, .int .i64 m6][j]?) := ⟨HBZ.out.cell, HPZ.out.cell, HTZ.out.cell⟩
  refine wp_region_L (by kernel_rfl) (fun W' => (∀ j, W'.cell? ⟨w2.heap.size, j, none⟩ = #[Value.int .i64 ir, .int .i64 glo, .int .i64 ghi, .slice A1 nr k1, .slice A8 (nd + 1) C8, .int .i64 wrg][j]?) ∧ (∀ j, W'.cell? ⟨w.heap.size, j, none⟩ = #[Value.int .i64 ir, .int .i64 glo, .int .i64 ghi, .slice Ar nr cr, .slice Ad nd cd, .int .i64 wrg][j]?) ∧ (∀ j, W'.cell? ⟨w.heap.size + 1, j, none⟩ = #[Value.int .i64 xw, .int .i64 xr, .int .i64 xc, .int .i64 xs, .int .i64 xo, .int .i64 xl, .int .i64 xh, .int .i64 m0, .int .i64 m1, .int .i64 m2, .int .i64 m3, .int .i64 m4, .int .i64 m5, .int .i64 m6][j]?)) 13 ?_
  obtain ⟨D, hD⟩ : ∃ D, Z.drew = D := ⟨_, rfl⟩
  have BD : Below w.heap.size w D := by rw [← hD]; exact Below.drew BZ
  have HOD := Lib.hid (by rw [← hD]; exact HOZ.out.later (Below.drew (Below.refl _ _)) : MemP A1 nr A8 (nd + 1) ⟨ir, glo, ghi, wrg, rods, res ++ [⟨xw, xr, xc, xs, xo, xl, xh⟩]⟩ D)
  have HBD := Lib.hid (by rw [← hD]; exact HBZ.out.drew : Blk D w2.heap.size 27 #[.int .i64 ir, .int .i64 glo, .int .i64 ghi, .slice A1 nr k1, .slice A8 (nd + 1) C8, .int .i64 wrg])
  have HPD := Lib.hid (by rw [← hD]; exact HPZ.out.drew : Blk D w.heap.size 27 #[.int .i64 ir, .int .i64 glo, .int .i64 ghi, .slice Ar nr cr, .slice Ad nd cd, .int .i64 wrg])
  have HTD := Lib.hid (by rw [← hD]; exact HTZ.out.drew : Blk D (w.heap.size + 1) 50 #[.int .i64 xw, .int .i64 xr, .int .i64 xc, .int .i64 xs, .int .i64 xo, .int .i64 xl, .int .i64 xh, .int .i64 m0, .int .i64 m1, .int .i64 m2, .int .i64 m3, .int .i64 m4, .int .i64 m5, .int .i64 m6])
  rw [hD] at hS ⊢
  clear hD HBZ HPZ HTZ HOZ
  refine wpAnyL_take (i := 0) (v := ?_) rfl (by kernel_rfl) (by kernel_rfl) (by kernel_rfl) (by kernel_rfl) (fun _ _ _ h => h) hS (Or.inl ⟨by rfl, ?_⟩) ?_
  rotate_left 1
  · intro w9 hw9
    obtain ⟨s0, s1, s2⟩ := hw9
    go_simp
    try with_reducible rfl
  try simp only [List.getElem_toArray, List.getElem_cons_zero, List.getElem_cons_succ, Act.put, List.setIfInBounds_toArray, List.set_cons_zero, List.set_cons_succ]
  refine wpAnyL_take (i := 1) (v := ?_) rfl (by kernel_rfl) (by kernel_rfl) (by kernel_rfl) (by kernel_rfl) (fun _ _ _ h => h) hS (Or.inl ⟨by rfl, ?_⟩) ?_
  rotate_left 1
  · intro w9 hw9
    obtain ⟨s0, s1, s2⟩ := hw9
    go_simp
    try with_reducible rfl
  try simp only [List.getElem_toArray, List.getElem_cons_zero, List.getElem_cons_succ, Act.put, List.setIfInBounds_toArray, List.set_cons_zero, List.set_cons_succ]
  refine wpAnyL_one (i := 2) (by kernel_rfl) rfl (fun K hK => ?_)
  go_simp
  refine (HI1.out A1 k1 A8 C8 D BD HOD.out).mono ?_
  rintro e w3 ⟨rfl, hb⟩
  have Bw3 := BD.trans (hb.mono BD.size)
  have HOw3 := Lib.hid (HOD.out.later hb)
  have HBw3 := Lib.hid (HBD.out.below hb HBD.out.lt)
  have HPw3 := Lib.hid (HPD.out.below hb HPD.out.lt)
  have HTw3 := Lib.hid (HTD.out.below hb HTD.out.lt)
  have hSw3 : (∀ j, w3.cell? ⟨w2.heap.size, j, none⟩ = #[Value.int .i64 ir, .int .i64 glo, .int .i64 ghi, .slice A1 nr k1, .slice A8 (nd + 1) C8, .int .i64 wrg][j]?) ∧ (∀ j, w3.cell? ⟨w.heap.size, j, none⟩ = #[Value.int .i64 ir, .int .i64 glo, .int .i64 ghi, .slice Ar nr cr, .slice Ad nd cd, .int .i64 wrg][j]?) ∧ (∀ j, w3.cell? ⟨w.heap.size + 1, j, none⟩ = #[Value.int .i64 xw, .int .i64 xr, .int .i64 xc, .int .i64 xs, .int .i64 xo, .int .i64 xl, .int .i64 xh, .int .i64 m0, .int .i64 m1, .int .i64 m2, .int .i64 m3, .int .i64 m4, .int .i64 m5, .int .i64 m6][j]?) := ⟨HBw3.out.cell, HPw3.out.cell, HTw3.out.cell⟩
  clear hb
  refine hK.out _ _ (fun _ => hSw3) (fun hS' => ?_)
  clear hK K hS hS'
  have hS := hSw3
  clear hSw3
  try simp only [List.getElem_toArray, List.getElem_cons_zero, List.getElem_cons_succ, Act.put, List.setIfInBounds_toArray, List.set_cons_zero, List.set_cons_succ]
  refine wpAnyL_take (i := 3) (v := ?_) rfl (by kernel_rfl) (by kernel_rfl) (by kernel_rfl) (by kernel_rfl) (fun _ _ _ h => h) hS (Or.inl ⟨by rfl, ?_⟩) ?_
  rotate_left 1
  · intro w9 hw9
    obtain ⟨s0, s1, s2⟩ := hw9
    go_simp
    try with_reducible rfl
  try simp only [List.getElem_toArray, List.getElem_cons_zero, List.getElem_cons_succ, Act.put, List.setIfInBounds_toArray, List.set_cons_zero, List.set_cons_succ]
  refine wpAnyL_take (i := 4) (v := ?_) rfl (by kernel_rfl) (by kernel_rfl) (by kernel_rfl) (by kernel_rfl) (fun _ _ _ h => h) hS (Or.inl ⟨by rfl, ?_⟩) ?_
  rotate_left 1
  · intro w9 hw9
    obtain ⟨s0, s1, s2⟩ := hw9
    go_simp
    try with_reducible rfl
  try simp only [List.getElem_toArray, List.getElem_cons_zero, List.getElem_cons_succ, Act.put, List.setIfInBounds_toArray, List.set_cons_zero, List.set_cons_succ]
  refine wpAnyL_take (i := 5) (v := ?_) rfl (by kernel_rfl) (by kernel_rfl) (by kernel_rfl) (by kernel_rfl) (fun _ _ _ h => h) hS (Or.inl ⟨by rfl, ?_⟩) ?_
  rotate_left 1
  · intro w9 hw9
    obtain ⟨s0, s1, s2⟩ := hw9
    go_simp
    try with_reducible rfl
  try simp only [List.getElem_toArray, List.getElem_cons_zero, List.getElem_cons_succ, Act.put, List.setIfInBounds_toArray, List.set_cons_zero, List.set_cons_succ]
  refine wpAnyL_take (i := 6) (v := ?_) rfl (by kernel_rfl) (by kernel_rfl) (by kernel_rfl) (by kernel_rfl) (fun _ _ _ h => h) hS (Or.inl ⟨by rfl, ?_⟩) ?_
  rotate_left 1
  · intro w9 hw9
    obtain ⟨s0, s1, s2⟩ := hw9
    go_simp
    try with_reducible rfl
  try simp only [List.getElem_toArray, List.getElem_cons_zero, List.getElem_cons_succ, Act.put, List.setIfInBounds_toArray, List.set_cons_zero, List.set_cons_succ]
  refine wpAnyL_one (i := 7) (by kernel_rfl) rfl (fun K hK => ?_)
  go_simp
  refine (HWD.out w3 Bw3).mono ?_
  rintro e w4 ⟨A5, k5, A6, k6, rfl, hO, hb⟩
  have Bw4 := Bw3.trans (hb.mono Bw3.size)
  have HQw4 := Lib.hid (HMQ.out _ A5 k5 A6 k6 w4 hO)
  have HBw4 := Lib.hid (HBw3.out.below hb HBw3.out.lt)
  have HPw4 := Lib.hid (HPw3.out.below hb HPw3.out.lt)
  have HTw4 := Lib.hid (HTw3.out.below hb HTw3.out.lt)
  have HOw4 := Lib.hid (HOw3.out.later hb)
  have hSw4 : (∀ j, w4.cell? ⟨w2.heap.size, j, none⟩ = #[Value.int .i64 ir, .int .i64 glo, .int .i64 ghi, .slice A1 nr k1, .slice A8 (nd + 1) C8, .int .i64 wrg][j]?) ∧ (∀ j, w4.cell? ⟨w.heap.size, j, none⟩ = #[Value.int .i64 ir, .int .i64 glo, .int .i64 ghi, .slice Ar nr cr, .slice Ad nd cd, .int .i64 wrg][j]?) ∧ (∀ j, w4.cell? ⟨w.heap.size + 1, j, none⟩ = #[Value.int .i64 xw, .int .i64 xr, .int .i64 xc, .int .i64 xs, .int .i64 xo, .int .i64 xl, .int .i64 xh, .int .i64 m0, .int .i64 m1, .int .i64 m2, .int .i64 m3, .int .i64 m4, .int .i64 m5, .int .i64 m6][j]?) := ⟨HBw4.out.cell, HPw4.out.cell, HTw4.out.cell⟩
  clear hb hO
  refine hK.out _ _ (fun _ => hSw4) (fun hS' => ?_)
  clear hK K hS hS'
  have hS := hSw4
  clear hSw4
  try simp only [List.getElem_toArray, List.getElem_cons_zero, List.getElem_cons_succ, Act.put, List.setIfInBounds_toArray, List.set_cons_zero, List.set_cons_succ]
  refine wpAnyL_one (i := 8) (by kernel_rfl) rfl (fun K hK => ?_)
  go_simp
  refine (HI2.out A5 k5 A6 k6 w4 Bw4 HQw4.out).mono ?_
  rintro e w5 ⟨rfl, hb⟩
  have Bw5 := Bw4.trans (hb.mono Bw4.size)
  have HOw5 := Lib.hid (HOw4.out.later hb)
  have HBw5 := Lib.hid (HBw4.out.below hb HBw4.out.lt)
  have HPw5 := Lib.hid (HPw4.out.below hb HPw4.out.lt)
  have HTw5 := Lib.hid (HTw4.out.below hb HTw4.out.lt)
  have hSw5 : (∀ j, w5.cell? ⟨w2.heap.size, j, none⟩ = #[Value.int .i64 ir, .int .i64 glo, .int .i64 ghi, .slice A1 nr k1, .slice A8 (nd + 1) C8, .int .i64 wrg][j]?) ∧ (∀ j, w5.cell? ⟨w.heap.size, j, none⟩ = #[Value.int .i64 ir, .int .i64 glo, .int .i64 ghi, .slice Ar nr cr, .slice Ad nd cd, .int .i64 wrg][j]?) ∧ (∀ j, w5.cell? ⟨w.heap.size + 1, j, none⟩ = #[Value.int .i64 xw, .int .i64 xr, .int .i64 xc, .int .i64 xs, .int .i64 xo, .int .i64 xl, .int .i64 xh, .int .i64 m0, .int .i64 m1, .int .i64 m2, .int .i64 m3, .int .i64 m4, .int .i64 m5, .int .i64 m6][j]?) := ⟨HBw5.out.cell, HPw5.out.cell, HTw5.out.cell⟩
  clear hb
  refine hK.out _ _ (fun _ => hSw5) (fun hS' => ?_)
  clear hK K hS hS'
  have hS := hSw5
  clear hSw5
  try simp only [List.getElem_toArray, List.getElem_cons_zero, List.getElem_cons_succ, Act.put, List.setIfInBounds_toArray, List.set_cons_zero, List.set_cons_succ]
  refine wpAnyL_take (i := 9) (v := ?_) rfl (by kernel_rfl) (by kernel_rfl) (by kernel_rfl) (by kernel_rfl) (fun _ _ _ h => h) hS (Or.inl ⟨by rfl, ?_⟩) ?_
  rotate_left 1
  · intro w9 hw9
    obtain ⟨s0, s1, s2⟩ := hw9
    go_simp
    try with_reducible rfl
  try simp only [List.getElem_toArray, List.getElem_cons_zero, List.getElem_cons_succ, Act.put, List.setIfInBounds_toArray, List.set_cons_zero, List.set_cons_succ]
  refine wpAnyL_take (i := 10) (v := ?_) rfl (by kernel_rfl) (by kernel_rfl) (by kernel_rfl) (by kernel_rfl) (fun _ _ _ h => h) hS (Or.inl ⟨by rfl, ?_⟩) ?_
  rotate_left 1
  · intro w9 hw9
    obtain ⟨s0, s1, s2⟩ := hw9
    go_simp
    try with_reducible rfl
  try simp only [List.getElem_toArray, List.getElem_cons_zero, List.getElem_cons_succ, Act.put, List.setIfInBounds_toArray, List.set_cons_zero, List.set_cons_succ]
  refine wpAnyL_one (i := 11) (by kernel_rfl) rfl (fun K hK => ?_)
  go_simp
  refine (works4_c w5).mono ?_
  rintro e w6 ⟨rfl, hb⟩
  have Bw6 := Bw5.trans (hb.mono Bw5.size)
  have HOw6 := Lib.hid (HOw5.out.later hb)
  have HBw6 := Lib.hid (HBw5.out.below hb HBw5.out.lt)
  have HPw6 := Lib.hid (HPw5.out.below hb HPw5.out.lt)
  have HTw6 := Lib.hid (HTw5.out.below hb HTw5.out.lt)
  have hSw6 : (∀ j, w6.cell? ⟨w2.heap.size, j, none⟩ = #[Value.int .i64 ir, .int .i64 glo, .int .i64 ghi, .slice A1 nr k1, .slice A8 (nd + 1) C8, .int .i64 wrg][j]?) ∧ (∀ j, w6.cell? ⟨w.heap.size, j, none⟩ = #[Value.int .i64 ir, .int .i64 glo, .int .i64 ghi, .slice Ar nr cr, .slice Ad nd cd, .int .i64 wrg][j]?) ∧ (∀ j, w6.cell? ⟨w.heap.size + 1, j, none⟩ = #[Value.int .i64 xw, .int .i64 xr, .int .i64 xc, .int .i64 xs, .int .i64 xo, .int .i64 xl, .int .i64 xh, .int .i64 m0, .int .i64 m1, .int .i64 m2, .int .i64 m3, .int .i64 m4, .int .i64 m5, .int .i64 m6][j]?) := ⟨HBw6.out.cell, HPw6.out.cell, HTw6.out.cell⟩
  clear hb
  refine hK.out _ _ (fun _ => hSw6) (fun hS' => ?_)
  clear hK K hS hS'
  have hS := hSw6
  clear hSw6
  try simp only [List.getElem_toArray, List.getElem_cons_zero, List.getElem_cons_succ, Act.put, List.setIfInBounds_toArray, List.set_cons_zero, List.set_cons_succ]
  refine wpAnyL_take (i := 12) (v := ?_) rfl (by kernel_rfl) (by kernel_rfl) (by kernel_rfl) (by kernel_rfl) (fun _ _ _ h => h) hS (Or.inl ⟨by rfl, ?_⟩) ?_
  rotate_left 1
  · intro w9 hw9
    obtain ⟨s0, s1, s2⟩ := hw9
    go_simp
    try with_reducible rfl
  try simp only [List.getElem_toArray, List.getElem_cons_zero, List.getElem_cons_succ, Act.put, List.setIfInBounds_toArray, List.set_cons_zero, List.set_cons_succ]
  refine wpAnyL_one (i := 13) (by kernel_rfl) rfl (fun K hK => ?_)
  go_simp
  refine hK.out _ _ (fun h => absurd rfl h) (fun hS' => ?_)
  refine wpAnyL_done (by kernel_rfl) ?_ _
  clear hS hK K hS'
  go_wp2_with fail
  go_ret
  exact ⟨rfl, Bw6⟩

end Go.Proofs.Ytjlibgledkdfiaa
