/- truths of stretch (layer 4): all bundles of truths, handed to a function. -/
import Derived.Test.YtcbeiadimchknaaGreatQp40
import Derived.Test.YtcbeiadimchknaaGreatQp09
import Derived.BigRegionIn
import Derived.Shelf.RegionOpen
namespace Go.Proofs.YtcbeiadimchknaaGreat
open Go.RowKit
open Go.Sort (grow)
set_option linter.unusedVariables false
set_option linter.unusedSimpArgs false

attribute [local go_sem] Oper.semAt_some
/-- how many of the first k pass -/
def cnt4 (wrg : Int) (xs : List Bu4) (k : Nat) : Nat := ((xs.take k).filter fun x => decide (((x.b.1 + x.a.1 : Nat) : Int) ≤ wrg)).length
theorem cnt4_yes {wrg : Int} {xs : List Bu4} {k : Nat} {x : Bu4} (h : xs[k]? = some x) (hx : ((x.b.1 + x.a.1 : Nat) : Int) ≤ wrg) : cnt4 wrg xs (k + 1) = cnt4 wrg xs k + 1 ∧ (xs.filter fun x => decide (((x.b.1 + x.a.1 : Nat) : Int) ≤ wrg))[cnt4 wrg xs k]? = some x := by
  have hl := (List.getElem?_eq_some_iff.1 h).1
  have e : xs.filter (fun x => decide (((x.b.1 + x.a.1 : Nat) : Int) ≤ wrg)) = (xs.take k).filter (fun x => decide (((x.b.1 + x.a.1 : Nat) : Int) ≤ wrg)) ++ x :: (xs.drop (k + 1)).filter (fun x => decide (((x.b.1 + x.a.1 : Nat) : Int) ≤ wrg)) := by
    have h1 := (List.getElem?_eq_some_iff.1 h).2
    have h2 := List.drop_eq_getElem_cons hl
    rw [h1] at h2
    conv => lhs; rw [← List.take_append_drop k xs, h2, List.filter_append]
    rw [List.filter_cons_of_pos (by simpa using hx)]
  unfold cnt4
  constructor
  · rw [List.take_add_one, h, List.filter_append, List.length_append]
    have : decide (((x.b.1 + x.a.1 : Nat) : Int) ≤ wrg) = true := decide_eq_true hx
    simp only [Option.toList, List.filter_cons, this, if_true, List.filter_nil, List.length_cons, List.length_nil]
  · rw [e, List.getElem?_append_right (Nat.le_refl _), Nat.sub_self]; rfl
theorem cnt4_no {wrg : Int} {xs : List Bu4} {k : Nat} {x : Bu4} (h : xs[k]? = some x) (hx : ¬ ((x.b.1 + x.a.1 : Nat) : Int) ≤ wrg) : cnt4 wrg xs (k + 1) = cnt4 wrg xs k := by
  unfold cnt4
  rw [List.take_add_one, h, List.filter_append, List.length_append]
  have : decide (((x.b.1 + x.a.1 : Nat) : Int) ≤ wrg) = false := decide_eq_false hx
  simp only [Option.toList, List.filter_cons, this, Bool.false_eq_true, if_false, List.filter_nil, List.length_nil, Nat.add_zero]
theorem bs4_wr {p : P4} {x : Bu4} (h : x ∈ bs4 p) : x.b.1 ≤ p.res.length ∧ x.a.1 ≤ p.res.length := by
  obtain ⟨-, h1, h2⟩ := mem_bs4.1 h
  obtain ⟨⟨l1, -, e1⟩, -⟩ := mem_gr4.1 h1
  obtain ⟨⟨l2, -, e2⟩, -⟩ := mem_gr4.1 h2
  have a := wk4_le (p := p) (wh := 1) (u := x.u) (len := l1) (k := p.res.length)
  have b := wk4_le (p := p) (wh := 2) (u := x.u) (len := l2) (k := p.res.length)
  unfold wr4 at e1 e2
  omega
theorem BuAt.out {B : Nat} {K O K9 : Nat → Prop} {x : Bu4} {hb : Hb} {W : World} (H : BuAt K O x hb W) (hK : ∀ b, K b → B + 2 ≤ b) (h9 : ∀ b, K b → K9 b) : BuAt K9 (OS B O) x hb W :=
  have r : ∀ h l, RowK K O W h l → RowK K9 (OS B O) W h l := fun h l r => ⟨r.1, fun a e => ⟨h9 _ (r.2 a e).1, fun h => by
    have := hK _ (r.2 a e).1
    rcases h with h | h | h
    · exact (r.2 a e).2.1 h
    · omega
    · omega, (r.2 a e).2.2⟩⟩
  ⟨H.u, H.bw, H.aw, r _ _ H.b, r _ _ H.a⟩
set_option maxRecDepth 100000 in
set_option maxHeartbeats 3200000 in
theorem truths4_c (Ar : Option Addr) (nr cr : Nat) (Ad : Option Addr) (nd cd : Nat) (p : P4) (ok : Ok4 nr nd p) :
    IterO Tryz.prog 74 #[.agg #[.int .i64 p.ir, .int .i64 p.glo, .int .i64 p.ghi, .slice Ar nr cr, .slice Ad nd cd, .int .i64 p.wr]] #[] (MemP Ar nr Ad nd p) (tr4 p) AtB := by
  intro l J Jx W hM hS hX hY h0
  have HIT := Lib.hid (bundles_c Ar nr cr Ad nd cd p ok)
  have HWR := Lib.hid (fun x (hx : x ∈ bs4 p) => bs4_wr hx)
  have hld := ok.ld
  have hnd8 := ok.nd8
  obtain ⟨xs, hxs⟩ : ∃ xs, bs4 p = xs := ⟨_, rfl⟩
  obtain ⟨ys, hys⟩ : ∃ ys, tr4 p = ys := ⟨_, rfl⟩
  have hyx : ys = xs.filter fun x => decide (((x.b.1 + x.a.1 : Nat) : Int) ≤ p.wr) := by rw [← hys, ← hxs]; rfl
  have hlen : cnt4 p.wr xs xs.length = ys.length := by rw [hyx]; unfold cnt4; rw [List.take_length]
  rw [hxs] at HIT HWR
  rw [hys] at hY ⊢
  have M0 := hM _ _ _ _ h0
  have HM := Lib.hid hM
  have HS := Lib.hid hS
  have HX := Lib.hid hX
  have HY := Lib.hid hY
  have H0 := Lib.hid h0
  have HYX := Lib.hid hyx
  have HLEN := Lib.hid hlen
  clear hM hS hX hY h0 hxs hys hyx hlen M0 ok
  show Calls Tryz.prog 74 #[.agg #[.int .i64 p.ir, .int .i64 p.glo, .int .i64 p.ghi, .slice Ar nr cr, .slice Ad nd cd, .int .i64 p.wr], .func (.yield l) #[] #[]] W _
  refine (callsIn_wide (n := 6)).1 (callsIn_of_wp_marks Tryz.func74 rfl trivial ?_ rfl)
  simp only [Tryz.ntmps74, List.size_toArray, List.length_cons, List.length_nil, Nat.reduceAdd, Nat.reduceSub, Array.replicate_succ, Array.replicate_zero, List.push_toArray, List.append_toArray, List.nil_append, List.cons_append]
  gi_wp2
  obtain ⟨X, hX⟩ : ∃ X, (W.alloc (.cells #[.int .i64 p.ir, .int .i64 p.glo, .int .i64 p.ghi, .slice Ar nr cr, .slice Ad nd cd, .int .i64 p.wr] 96)).alloc (.cells #[.func (.yield l) #[] #[]] 154) = X := ⟨_, rfl⟩
  rw [hX]
  have BX : Below W.heap.size W X := (al2 hX).1
  have zX : X.heap.size = W.heap.size + 2 := (al2 hX).2
  have B2 : Hid (Blk X W.heap.size 96 #[.int .i64 p.ir, .int .i64 p.glo, .int .i64 p.ghi, .slice Ar nr cr, .slice Ad nd cd, .int .i64 p.wr]) := by rw [← hX]; exact (Blk.new W _ _).alloc _
  have B3 : Hid (Blk X (W.heap.size + 1) 154 #[.func (.yield l) #[] #[]]) := by
    rw [← hX]
    have := Blk.new (W.alloc (.cells #[.int .i64 p.ir, .int .i64 p.glo, .int .i64 p.ghi, .slice Ar nr cr, .slice Ad nd cd, .int .i64 p.wr] 96)) 154 #[.func (.yield l) #[] #[]]
    rw [World.size_alloc] at this
    exact this
  clear hX
  have en := enters_of Tryz.func94 (by kernel_rfl) rfl
  refine wpIn_rangeO (gf := 94) (fst := #[.agg #[.int .i64 p.ir, .int .i64 p.glo, .int .i64 p.ghi, .slice Ar nr cr, .slice Ad nd cd, .int .i64 p.wr]]) (lb := #[]) rfl en HIT.out (fun K O x args W h => by obtain ⟨hb, e, -⟩ := h; rw [e]; rfl)
    (fun K O k W1 => (∀ b, O b → K b) ∧ (∃ K9 : Nat → Prop, (∀ b, KS W.heap.size (X.heap.size + 2) K b → K9 b) ∧ (∀ b, K9 b → W.heap.size ≤ b) ∧ J K9 (OS X.heap.size O) (cnt4 p.wr xs k) W1) ∧ Blk W1 W.heap.size 96 #[.int .i64 p.ir, .int .i64 p.glo, .int .i64 p.ghi, .slice Ar nr cr, .slice Ad nd cd, .int .i64 p.wr] ∧ Blk W1 (W.heap.size + 1) 154 #[.func (.yield l) #[] #[]])
    (fun c W1 => c = .ret ∧ Jx W1) ?hI ?hIt ?hIx ?hmem ?h0 ?hround ?hdone ?hstop
  case hI =>
    rintro K O K' O' k W1 W2 hK ⟨hO, ⟨K9, h9, h9B, hJ⟩, k2, k3⟩ hst
    have hn : ∀ b, b < X.heap.size + 2 → ¬ O b := fun b hb e => by have := hK b (hO b e); omega
    have z1 := k3.lt
    refine ⟨hst.inO, ⟨fun b => K9 b ∨ K' b, ?_, ?_, HS.out _ _ _ _ _ _ _ h9B hJ (hst.wide9 h9 (fun b h => h9 b (os_ks hO (by omega) rfl b h)) (by omega) rfl)⟩, hst.blk k2 (hn _ (by omega)), hst.blk k3 (hn _ (by omega))⟩
    · rintro b (h | h)
      · exact .inr h
      · exact .inl (h9 b (.inr h))
    · rintro b (h | h)
      · exact h9B b h
      · rcases hst.newK b h with h' | h'
        · exact h9B b (h9 b (.inl h'))
        · omega
  case hIt =>
    rintro K O k W1 W2 hK hs ⟨hO, ⟨K9, h9, h9B, hJ⟩, k2, k3⟩ ht
    exact ⟨hO, ⟨K9, h9, h9B, HS.out _ _ _ _ _ _ _ h9B hJ (ht.stp (.inr (.inl rfl)) (.inr (.inr rfl)) (fun b h => h9 b (os_ks hO (by omega) rfl b h)))⟩, ht.blk k2 (by omega), ht.blk k3 (by omega)⟩
  case hIx =>
    rintro c W1 W2 ⟨rfl, hx⟩ hb
    exact ⟨rfl, HX.out _ _ hx (hb.mono (by omega))⟩
  case hmem => exact fun K O k W1 ⟨_, ⟨K9, _, _, hJ⟩, _⟩ => HM.out _ _ _ _ hJ
  case h0 =>
    intro W1 hb hz
    refine ⟨fun b h => h, ⟨KS W.heap.size (X.heap.size + 2) (fun _ => False), fun b h => h, ks_ge (fun b h => h.elim) (by omega), ?_⟩, B2.out.below hb (by omega), B3.out.below hb (by omega)⟩
    have hb1 : Below W.heap.size W W1 := BX.trans (hb.mono (by omega))
    refine HS.out _ _ _ _ 0 W W1 (fun b h => h.elim) H0.out ?_
    exact ⟨hb1.os, hb1.tape, hb1.output, hb1.size, fun b h => h.elim, fun b h => .inr (by rcases h with h | h; exact h.elim; exact ⟨h.1, by omega⟩), fun b h => .inr (by rcases h with h | h | h; exact h.elim; omega; omega), os_ks (fun b h => h) (by omega) rfl, fun j hj _ => hb1.block j hj⟩
  case hround =>
    rintro K O k x args W1 hK hO hs hx ⟨-, ⟨K9, h9, h9B, hJ⟩, k2, k3⟩ ⟨hb, rfl, hB⟩
    have HXX := Lib.hid hx
    have HBU := Lib.hid hB
    obtain ⟨hw1, hw2⟩ := HWR.out x (List.mem_of_getElem? hx)
    have hbw : (hb.bw = (x.b.1 : Nat) ∧ hb.aw = (x.a.1 : Nat)) := ⟨hB.bw, hB.aw⟩
    have HJ := Lib.hid hJ
    have K2 := Lib.hid k2
    have K3 := Lib.hid k3
    have zl : W.heap.size + 1 < X.heap.size := by omega
    have zl2 : W.heap.size + 1 < W1.heap.size := by omega
    have ZX := Lib.hid zX
    have HWC := Lib.hid (fun V => wrong4_c hb (by omega) V)
    have HSU : Hid (hb.bw + hb.aw = ((x.b.1 + x.a.1 : Nat) : Int)) := Lib.hid (by omega)
    obtain ⟨sm, hsm⟩ : ∃ s, hb.bw + hb.aw = s := ⟨_, rfl⟩
    rw [hsm] at HWC HSU
    clear hx hJ k2 k3 zX hB hbw hw1 hw2 hsm
    obtain ⟨⟨u0, u1, u2, u3⟩, bw, ⟨bA, bn, bc⟩, aw, ⟨aA, an, ac⟩⟩ := hb
    simp only [encB4] at HWC ⊢
    gi_wp2
    have hbb : Below W1.heap.size W1 (W1.alloc (.cells #[.int .i64 u0, .int .i64 u1, .int .i64 u2, .int .i64 u3, .int .i64 bw, .slice bA bn bc, .int .i64 aw, .slice aA an ac] 105)) := by (repeat first | with_reducible assumption | with_reducible exact Below.refl _ _ | (with_reducible refine Below.alloc ?_ ?side _; case side => (first | omega | (with_reducible exact Below.size (by assumption)) | (simp; done) | (simp; omega))) | (with_reducible refine Below.setCell ?_ ?side _; case side => (first | omega | (with_reducible exact Below.size (by assumption)) | (simp; done) | (simp; omega))) | with_reducible refine Below.drew ?_ | with_reducible refine below_drewN ?_ _ | (with_reducible refine below_step (by assumption) ?side ?_; case side => (first | omega | (with_reducible exact Below.size (by assumption)) | (simp; done) | (simp; omega))))
    refine ⟨.of_below hbb (by omega), .of_below hbb, fun W2 ht => ?_⟩
    have q4 : Hid (Blk W2 W1.heap.size 105 #[.int .i64 u0, .int .i64 u1, .int .i64 u2, .int .i64 u3, .int .i64 bw, .slice bA bn bc, .int .i64 aw, .slice aA an ac]) := Lib.hid (ht.blk (Blk.new W1 _ _) (by omega))
    have hO9 : ∀ b, OS X.heap.size O b → K9 b := fun b h => h9 b (os_ks hO (by have := ZX.out; omega) rfl b h)
    obtain ⟨KA, hKA⟩ : ∃ KA : Nat → Prop, KA = fun b => K9 b ∨ (W1.heap.size ≤ b ∧ b < (W1.alloc (.cells #[.int .i64 u0, .int .i64 u1, .int .i64 u2, .int .i64 u3, .int .i64 bw, .slice bA bn bc, .int .i64 aw, .slice aA an ac] 105)).heap.size) := ⟨_, rfl⟩
    have hA9 : ∀ b, K9 b → KA b := by rw [hKA]; exact fun b h => .inl h
    have hAu : KA W1.heap.size := by rw [hKA]; exact .inr ⟨Nat.le_refl _, by simp⟩
    have hAB : ∀ b, KA b → W.heap.size ≤ b := by rw [hKA]; rintro b (h | h); exact h9B b h; omega
    have hst1 : Stp K9 (OS X.heap.size O) KA (OS X.heap.size O) W1 W2 := by
      refine (Stp.below_ro hbb hO9).trans ?_
      rw [← hKA]
      exact ht.stp (.inr (.inl rfl)) (.inr (.inr rfl)) (fun b h => hA9 b (hO9 b h))
    have HJA := Lib.hid (HS.out K9 _ KA _ _ W1 W2 h9B HJ.out hst1)
    have HBA := Lib.hid ((HBU.out.out hK (fun b h => h9 b (.inl h))).stp hst1)
    have K22 := Lib.hid (ht.blk (K2.out.below hbb K2.out.lt) (by omega))
    have K32 := Lib.hid (ht.blk (K3.out.below hbb K3.out.lt) (by omega))
    have c2 := K22.out.cell
    have c3 := K32.out.cell
    have c4 := q4.out.cell
    have l2 := K22.out.lt
    have l3 := K32.out.lt
    have l4 := q4.out.lt
    have z2 : X.heap.size + 1 < W2.heap.size := by have := ht.size; simp at this; omega
    have kB : KA W.heap.size ∧ KA (W.heap.size + 1) ∧ KA X.heap.size ∧ KA (X.heap.size + 1) := by
      have := ZX.out
      exact ⟨hA9 _ (h9 _ (.inr ⟨by omega, by omega⟩)), hA9 _ (h9 _ (.inr ⟨by omega, by omega⟩)), hA9 _ (h9 _ (.inr ⟨by omega, by omega⟩)), hA9 _ (h9 _ (.inr ⟨by omega, by omega⟩))⟩
    clear ht hbb K2 K3 HJ hst1 hKA HBU
    by_cases hn : sm ≤ p.wr
    case neg =>
      have hnB : decide (sm ≤ p.wr) = false := decide_eq_false hn
      have hc := Lib.hid (cnt4_no (wrg := p.wr) HXX.out (by rw [← HSU.out]; exact hn))
      gi_wp2
      have hcq := fun p : Regrown => (bcell (below_regrown W2 p.d p.os)).1
      refine wpIn_region_quiet_round (by kernel_rfl) (by kernel_rfl) (by kernel_rfl) ?_
      repeat (go_big_quiet_step ((go_at_call 95; exact Calls.regrown_of (HWC.out _))))
      refine wpQuiet_nil ?_
      intro wq hq
      obtain ⟨pq, hq⟩ := hq
      have hbq : Below W2.heap.size W2 wq := by rw [hq]; exact below_regrown _ _ _
      clear hq hcq pq
      obtain ⟨hcq, hfq⟩ := bcell hbq
      have zq := hbq.size
      gi_wp2
      have hO2 : ∀ b, OS X.heap.size O b → KA b := fun b h => hA9 b (hO9 b h)
      exact ⟨KeepL.of_below hbq z2, KpO.of_below hbq, hO, ⟨KA, fun b h => hA9 b (h9 b h), hAB, by rw [hc.out]; exact HS.out KA _ KA _ _ W2 wq hAB HJA.out (.below0 hbq hO2)⟩, K22.out.below hbq l2, K32.out.below hbq l3⟩
    have hnB : decide (sm ≤ p.wr) = true := decide_eq_true hn
    obtain ⟨hc, hg⟩ := cnt4_yes (wrg := p.wr) HXX.out (by rw [← HSU.out]; exact hn)
    rw [← HYX.out] at hg
    have HC := Lib.hid hc
    have HG := Lib.hid hg
    clear hc hg
    gi_wp2
    have hS : (∀ j, W2.drew.cell? ⟨W.heap.size, j, none⟩ = #[Value.int .i64 p.ir, .int .i64 p.glo, .int .i64 p.ghi, .slice Ar nr cr, .slice Ad nd cd, .int .i64 p.wr][j]?) ∧ (∀ j, W2.drew.cell? ⟨W.heap.size + 1, j, none⟩ = #[Value.func (.yield l) #[] #[]][j]?) ∧ (∀ j, W2.drew.cell? ⟨W1.heap.size, j, none⟩ = #[Value.int .i64 u0, .int .i64 u1, .int .i64 u2, .int .i64 u3, .int .i64 bw, .slice bA bn bc, .int .i64 aw, .slice aA an ac][j]?) := ⟨fun j => c2 j, fun j => c3 j, fun j => c4 j⟩
    refine wpIn_region_K (by kernel_rfl) (fun W' => (∀ j, W'.cell? ⟨W.heap.size, j, none⟩ = #[Value.int .i64 p.ir, .int .i64 p.glo, .int .i64 p.ghi, .slice Ar nr cr, .slice Ad nd cd, .int .i64 p.wr][j]?) ∧ (∀ j, W'.cell? ⟨W.heap.size + 1, j, none⟩ = #[Value.func (.yield l) #[] #[]][j]?) ∧ (∀ j, W'.cell? ⟨W1.heap.size, j, none⟩ = #[Value.int .i64 u0, .int .i64 u1, .int .i64 u2, .int .i64 u3, .int .i64 bw, .slice bA bn bc, .int .i64 aw, .slice aA an ac][j]?)) ?_
    refine wpAnyK_take (fun _ => trivial) (by rfl) (i := 0) (v := ?_) rfl (by kernel_rfl) (by kernel_rfl) (by kernel_rfl) (fun _ _ _ h => h) hS (Or.inl ⟨by rfl, ?_⟩) ?_
    rotate_left 1
    · intro w9 hw9
      obtain ⟨s0, s1, s2⟩ := hw9
      go_simp
      try with_reducible rfl
    simp only [List.getElem_toArray, List.getElem_cons_zero, Act.put, List.setIfInBounds_toArray, List.set_cons_zero, List.set_cons_succ]
    refine wpAnyK_take (fun _ => trivial) (by rfl) (i := 2) (v := ?_) rfl (by kernel_rfl) (by kernel_rfl) (by kernel_rfl) (fun _ _ _ h => h) hS (Or.inl ⟨by rfl, ?_⟩) ?_
    rotate_left 1
    · intro w9 hw9
      obtain ⟨s0, s1, s2⟩ := hw9
      go_simp
      try with_reducible rfl
    simp only [List.getElem_toArray, List.getElem_cons_zero, List.getElem_cons_succ, Act.put, List.setIfInBounds_toArray, List.set_cons_zero, List.set_cons_succ]
    refine wpAnyK_take (fun _ => trivial) (by rfl) (i := 3) (v := ?_) rfl (by kernel_rfl) (by kernel_rfl) (by kernel_rfl) (fun _ _ _ h => h) hS (Or.inl ⟨by rfl, ?_⟩) ?_
    rotate_left 1
    · intro w9 hw9
      obtain ⟨s0, s1, s2⟩ := hw9
      go_simp
      try with_reducible rfl
    simp only [List.getElem_toArray, List.getElem_cons_zero, List.getElem_cons_succ, Act.put, List.setIfInBounds_toArray, List.set_cons_zero, List.set_cons_succ]
    refine wpAnyK_take (fun _ => trivial) (by rfl) (i := 4) (v := ?_) rfl (by kernel_rfl) (by kernel_rfl) (by kernel_rfl) (fun _ _ _ h => h) hS (Or.inl ⟨by rfl, ?_⟩) ?_
    rotate_left 1
    · intro w9 hw9
      obtain ⟨s0, s1, s2⟩ := hw9
      go_simp
      try with_reducible rfl
    simp only [List.getElem_toArray, List.getElem_cons_zero, List.getElem_cons_succ, Act.put, List.setIfInBounds_toArray, List.set_cons_zero, List.set_cons_succ]
    refine wpAnyK_one (i := 1) (by kernel_rfl) rfl (fun Kx hKx => ?_)
    go_simp
    refine ⟨trivial, CallsIn.inRound _ (callsIn_wide.2 ((HWC.out _).mono ?_))⟩
    rintro e w5 ⟨rfl, hb5⟩
    have hb52 : Below W2.heap.size W2 w5 := ⟨hb5.os, hb5.tape, hb5.output, hb5.size, hb5.block⟩
    have z5 := hb52.size
    have K25 := Lib.hid (K22.out.below hb52 l2)
    have K35 := Lib.hid (K32.out.below hb52 l3)
    have q45 := Lib.hid (q4.out.below hb52 l4)
    have hO2 : ∀ b, OS X.heap.size O b → KA b := fun b h => hA9 b (hO9 b h)
    have HJ5 := Lib.hid (HS.out KA _ KA _ _ W2 w5 hAB HJA.out (.below0 hb52 hO2))
    have HB5 := Lib.hid (HBA.out.stp (.below0 hb52 hO2))
    have HB52 := Lib.hid hb52
    clear hb5 hb52 c2 c3 c4 K22 K32 q4 HJA HBA hS
    refine hKx.out _ _ ⟨K25.out.cell, K35.out.cell, q45.out.cell⟩ (fun hS => ?_)
    clear hKx Kx
    refine wpAnyK_take (fun _ => trivial) (by rfl) (i := 5) (v := ?_) rfl (by kernel_rfl) (by kernel_rfl) (by kernel_rfl) (fun _ _ _ h => h) hS (Or.inl ⟨by rfl, ?_⟩) ?_
    rotate_left 1
    · intro w9 hw9
      obtain ⟨s0, s1, s2⟩ := hw9
      go_simp
      try with_reducible rfl
    simp only [List.getElem_toArray, List.getElem_cons_zero, List.getElem_cons_succ, Act.put, List.setIfInBounds_toArray, List.set_cons_zero, List.set_cons_succ]
    refine wpAnyK_take (fun _ => trivial) (by rfl) (i := 6) (v := ?_) rfl (by kernel_rfl) (by kernel_rfl) (by kernel_rfl) (fun _ _ _ h => h) hS (Or.inl ⟨by rfl, ?_⟩) ?_
    rotate_left 1
    · intro w9 hw9
      obtain ⟨s0, s1, s2⟩ := hw9
      go_simp
      try with_reducible rfl
    simp only [List.getElem_toArray, List.getElem_cons_zero, List.getElem_cons_succ, Act.put, List.setIfInBounds_toArray, List.set_cons_zero, List.set_cons_succ]
    refine wpAnyK_take (fun _ => trivial) (by rfl) (i := 7) (v := ?_) rfl (by kernel_rfl) (by kernel_rfl) (by kernel_rfl) (fun _ _ _ h => h) hS (Or.inl ⟨by rfl, ?_⟩) ?_
    rotate_left 1
    · intro w9 hw9
      obtain ⟨s0, s1, s2⟩ := hw9
      go_simp
      try with_reducible rfl
    simp only [List.getElem_toArray, List.getElem_cons_zero, List.getElem_cons_succ, Act.put, List.setIfInBounds_toArray, List.set_cons_zero, List.set_cons_succ]
    refine wpAnyK_take (fun _ => trivial) (by rfl) (i := 8) (v := ?_) rfl (by kernel_rfl) (by kernel_rfl) (by kernel_rfl) (fun _ _ _ h => h) hS (Or.inl ⟨by rfl, ?_⟩) ?_
    rotate_left 1
    · intro w9 hw9
      obtain ⟨s0, s1, s2⟩ := hw9
      go_simp
      try with_reducible rfl
    simp only [List.getElem_toArray, List.getElem_cons_zero, List.getElem_cons_succ, Act.put, List.setIfInBounds_toArray, List.set_cons_zero, List.set_cons_succ]
    obtain ⟨fn, tmps, assign, body, hy, hR⟩ := HY.out KA (OS X.heap.size O) (cnt4 p.wr xs k) x _ w5 hAB hO2 HG.out HJ5.out ⟨_, rfl, HB5.out⟩
    simp only [encB4] at hy
    refine wpAnyK_one (i := 9) (by kernel_rfl) rfl (fun Kx hKx => ?_)
    go_simp
    refine roundIn_inRound _ ((hR _).mono ?_)
    rintro e w6 (⟨rfl, hJ6, hK6⟩ | ⟨rfl, hJ6, hK6⟩)
    all_goals
      have K26 := Lib.hid (hK6.blk K25.out kB.1)
      have K36 := Lib.hid (hK6.blk K35.out kB.2.1)
      have q46 := Lib.hid (hK6.blk q45.out hAu)
      have HJ6 := Lib.hid hJ6
      have HL6 := Lib.hid ((KeepL.of_below HB52.out z2).trans (KeepL.of_kp hK6 kB.2.2.1 kB.2.2.2 (by omega)))
      have HP6 := Lib.hid ((KpO.of_below (K := K) HB52.out).step (hK6.mono (fun b (h : K b) => hA9 b (h9 b (.inl h)))) (fun b h => h))
      clear hJ6 hK6 hy hR hS
      refine hKx.out _ _ ⟨K26.out.cell, K36.out.cell, q46.out.cell⟩ (fun hS => ?_)
      clear hKx Kx
      refine wpAnyK_take (fun _ => trivial) (by rfl) (i := 10) (v := ?_) rfl (by kernel_rfl) (by kernel_rfl) (by kernel_rfl) (fun _ _ _ h => h) hS (Or.inl ⟨by rfl, ?_⟩) ?_
      rotate_left 1
      · intro w9 hw9
        obtain ⟨s0, s1, s2⟩ := hw9
        go_simp
        try with_reducible rfl
      simp only [List.getElem_toArray, List.getElem_cons_zero, List.getElem_cons_succ, Act.put, List.setIfInBounds_toArray, List.set_cons_zero, List.set_cons_succ]
      refine wpAnyK_take (fun _ => trivial) (by rfl) (i := 11) (v := ?_) rfl (by kernel_rfl) (by kernel_rfl) (by kernel_rfl) (fun _ _ _ h => h) hS (Or.inl ⟨by rfl, ?_⟩) ?_
      rotate_left 1
      · intro w9 hw9
        obtain ⟨s0, s1, s2⟩ := hw9
        go_simp
        try with_reducible rfl
      simp only [List.getElem_toArray, List.getElem_cons_zero, List.getElem_cons_succ, Act.put, List.setIfInBounds_toArray, List.set_cons_zero, List.set_cons_succ]
      refine wpAnyK_done (by kernel_rfl) ?_ _
      clear hS
      gi_wp2
      first
      | exact ⟨HL6.out, HP6.out, hO, ⟨KA, fun b h => hA9 b (h9 b h), hAB, by rw [HC.out]; exact HJ6.out⟩, K26.out, K36.out⟩
      | exact ⟨HL6.out, HP6.out, rfl, HJ6.out⟩
  case hdone =>
    rintro K O W1 hK hs ⟨hO, ⟨K9, h9, h9B, hJ⟩, k2, k3⟩ hD
    have HJ := Lib.hid hJ
    have zl : W.heap.size + 1 < X.heap.size := by omega
    have ZX := Lib.hid zX
    clear hJ k2 k3 zX
    gi_wp2
    refine leave_turn (v := .tuple #[]) hD (fun W' ht => results_none rfl _ _ _) (fun W' ht => ⟨⟨_, rfl⟩, .inl ⟨K9, OS X.heap.size O, h9B, ?_⟩⟩)
    rw [← HLEN.out]
    exact HS.out _ _ _ _ _ _ _ h9B HJ.out (ht.stp (.inr (.inl rfl)) (.inr (.inr rfl)) (fun b h => h9 b (os_ks hO (by omega) rfl b h)))
  case hstop =>
    rintro c W1 ⟨rfl, hx⟩ hD
    have zl : W.heap.size + 1 < X.heap.size := by omega
    clear zX
    gi_wp2
    refine leave_turn (v := .tuple #[]) hD (fun W' ht => results_none rfl _ _ _) (fun W' ht => ⟨⟨_, rfl⟩, .inr (HX.out _ _ hx ((ht.to_below (by have := (Array.getElem?_eq_some_iff.1 hD).1; omega)).mono (by omega)))⟩)

end Go.Proofs.YtcbeiadimchknaaGreat
