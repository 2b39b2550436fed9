/- slices.Collect over bundles (layer 4): what an iterator hands over, in a slice; open of stretch (layer 4): a pull that has a truth, with its truths. -/
import Derived.Test.YtcbeiadimchknaaGreatQp41
import Derived.BigRegionIn
import Derived.Shelf.RegionOpen
import Derived.OwnWalkIn
namespace Go.Proofs.YtcbeiadimchknaaGreat
open Go.RowKit
open Go.Sort (grow)
set_option linter.unusedVariables false
set_option linter.unusedSimpArgs false

attribute [local go_sem] Oper.semAt_some
section
variable {P : Program} (w : World)
/-- append onto a row of the call's own, within a fence; the source a slice that reads as a list -/
theorem appendIn4 {F : Fence} {n : Nat} {α : Type} {enc : α → List Value} {d : α} {ops : Array Oper} {rest : List Oper} {o : Oper} {a : Act} {Q : Exit → Act → World → Prop} (hgd : o.guard = none) (s x : Operand) (t : TypeId)
    (ho : o.op = .call { callee := .builtin .append, args := #[s, x], argTypes := #[t, t] })
    (base : Nat) (e : TypeId) (size bytes : Nat) (E : ElemT P t e size bytes) (hs : ∀ x, (enc x).length = size) (h1 : ∀ x, ∀ u ∈ enc x, u.oneCell' = true)
    (v : Value) (k : Nat) (xs : List α) (hv : a.eval s = v) (hown : w.ownsRow base e size v k (xs.flatMap enc))
    (A : Option Addr) (m c : Nat) (ys : List α) (hx : a.eval x = .slice A m c) (hr : SlAt enc size d w A m ys)
    (hsz : k + m ≤ 100000) (hbase : base ≤ w.heap.size)
    (h : ∀ v' w', w'.ownsRow base e size v' (k + m) ((xs ++ ys).flatMap enc) → w.grownBy w' v.ownBlock → (v'.ownBlock = v.ownBlock ∨ v'.ownBlock = some w.heap.size) → wpListIn F n P ops Q rest (a.put o.dst v') w') : wpListIn F n P ops Q (o :: rest) a w := by
  obtain ⟨i, z, g2, g3, g4, g5, g6⟩ := E.info
  have hb := E.small
  have hbytes : (k + m) * bytes ≤ 140737488355328 := by
    have : (k + m) * bytes ≤ 100000 * 1000 := Nat.mul_le_mul hsz hb
    omega
  refine wpListIn_plain hgd fun K hK' => ?_
  obtain ⟨v', w', hrun, r1, r2, r3⟩ := run_append_any (P := P) w base t o.type e i z size bytes E.ht g2 g3 g4 g5 g6 E.pos v k (xs.flatMap enc) hown w.heap.size A m c (ys.flatMap enc) (hr.reads hs E.pos) (oneCell_flat h1 ys) (by unfold maxLen; omega) hbytes hbase
  unfold Oper.wpIn
  refine ⟨?_, ?_⟩
  · simp [Oper.about, ho, resolve, Target.leads, Sem.run_pure]
  · rw [Oper.semAt_plain F _ _ (by rw [ho]; intro c hc'; cases hc')]
    simp [execOp, ho, resolve, invoke, builtin, hv, hx, hrun, Result.andThen]
    exact hK' _ _ (h v' w' (by rw [List.flatMap_append]; exact r1) r2 r3)
end
theorem bun4_info : (Tryz.prog.info? 105).map (fun i => (i.zero, i.size, i.bytes)) = some (some (.agg #[.int .i64 0, .int .i64 0, .int .i64 0, .int .i64 0, .int .i64 0, .slice none 0 0, .int .i64 0, .slice none 0 0]), 8, 96) := by kernel_rfl
theorem bun4E : ElemT Tryz.prog 97 105 8 96 := by
  obtain ⟨i0, hi0, hz0, hz1, hz2⟩ := info_parts bun4_info
  exact ⟨Tryz.underlying97, ⟨i0, _, hi0, hz0, hz1, hz2, rfl⟩, by omega, by omega⟩
theorem IterO.mono {α : Type} {P : Program} {g : Nat} {fst lb : Array Value} {Mem : World → Prop} {xs : List α} {At At' : (Nat → Prop) → (Nat → Prop) → α → Array Value → World → Prop} (h : IterO P g fst lb Mem xs At) (hA : ∀ K O x args W, At K O x args W → At' K O x args W) : IterO P g fst lb Mem xs At' :=
  fun l J Jx W h1 h2 h3 h4 h5 => h l J Jx W h1 h2 h3 (fun K O k x args W1 a b c d e => h4 K O k x args W1 a b c d (hA _ _ _ _ _ e)) h5
/-- a bundle in memory whose rows are old, or the iterator's and no longer written -/
def RowC (B0 : Nat) (K O : Nat → Prop) (W : World) (h : Hd) (l : List Int) : Prop := IntsAt W h.A h.n l ∧ ∀ a, h.A = some a → (K a.block ∨ a.block < B0) ∧ ¬ O a.block ∧ a.block < W.heap.size
structure BuC (B0 : Nat) (K O : Nat → Prop) (x : Bu4) (hb : Hb) (W : World) : Prop where
  u : hb.u = x.u
  bw : hb.bw = (x.b.1 : Int)
  aw : hb.aw = (x.a.1 : Int)
  b : RowC B0 K O W hb.b x.b.2
  a : RowC B0 K O W hb.a x.a.2
def AtC (B0 : Nat) (K O : Nat → Prop) (x : Bu4) (args : Array Value) (W : World) : Prop := ∃ hb, args = #[.agg (encB4 hb).toArray] ∧ BuC B0 K O x hb W
theorem AtB.atC {K O : Nat → Prop} {x : Bu4} {args : Array Value} {W : World} (h : AtB K O x args W) : AtC 0 K O x args W := by
  obtain ⟨hb, e, h⟩ := h
  exact ⟨hb, e, h.u, h.bw, h.aw, ⟨h.b.1, fun a e => ⟨.inl (h.b.2 a e).1, (h.b.2 a e).2⟩⟩, ⟨h.a.1, fun a e => ⟨.inl (h.a.2 a e).1, (h.a.2 a e).2⟩⟩⟩
theorem RowC.same {B0 : Nat} {K O K' O' : Nat → Prop} {W W' : World} {h : Hd} {l : List Int} (H : RowC B0 K O W h l) (hz : W.heap.size ≤ W'.heap.size) (hs : ∀ b, (K b ∨ b < B0) → ¬ O b → b < W.heap.size → W'.heap[b]? = W.heap[b]?)
    (hK : ∀ b, K b → K' b) (hO : ∀ b, O' b → O b ∨ W.heap.size ≤ b) : RowC B0 K' O' W' h l :=
  ⟨ints_same H.1 hz fun a e => hs _ (H.2 a e).1 (H.2 a e).2.1 (H.2 a e).2.2, fun a e => ⟨(H.2 a e).1.imp_left (hK _), fun h => (hO _ h).elim (H.2 a e).2.1 (fun h => by have := (H.2 a e).2.2; omega), Nat.lt_of_lt_of_le (H.2 a e).2.2 hz⟩⟩
theorem BuC.same {B0 : Nat} {K O K' O' : Nat → Prop} {W W' : World} {x : Bu4} {hb : Hb} (H : BuC B0 K O x hb W) (hz : W.heap.size ≤ W'.heap.size) (hs : ∀ b, (K b ∨ b < B0) → ¬ O b → b < W.heap.size → W'.heap[b]? = W.heap[b]?)
    (hK : ∀ b, K b → K' b) (hO : ∀ b, O' b → O b ∨ W.heap.size ≤ b) : BuC B0 K' O' x hb W' := ⟨H.u, H.bw, H.aw, H.b.same hz hs hK hO, H.a.same hz hs hK hO⟩
def hbAt (hs : List Hb) (k : Nat) : Hb := hs.getD k ⟨⟨0, 0, 0, 0⟩, 0, ⟨none, 0, 0⟩, 0, ⟨none, 0, 0⟩⟩
def bxAt (xs : List Bu4) (k : Nat) : Bu4 := xs.getD k ⟨⟨0, 0, 0, 0⟩, (0, []), (0, [])⟩
theorem hbAt_lt {hs : List Hb} {h : Hb} {k : Nat} (hk : k < hs.length) : hbAt (hs ++ [h]) k = hbAt hs k := by
  unfold hbAt; rw [List.getD_eq_getElem?_getD, List.getD_eq_getElem?_getD, List.getElem?_append_left hk]
theorem hbAt_eq {hs : List Hb} {h : Hb} : hbAt (hs ++ [h]) hs.length = h := by
  unfold hbAt; rw [List.getD_eq_getElem?_getD, List.getElem?_append_right (Nat.le_refl _), Nat.sub_self]; rfl
theorem bxAt_get {xs : List Bu4} {k : Nat} {x : Bu4} (h : xs[k]? = some x) : bxAt xs k = x := by unfold bxAt; rw [List.getD_eq_getElem?_getD, h]; rfl
/-- a row that lies below B0, or at or above base -/
def RowP (B0 base : Nat) (w : World) (h : Hd) (l : List Int) : Prop := IntsAt w h.A h.n l ∧ ∀ a, h.A = some a → (a.block < B0 ∨ base ≤ a.block) ∧ a.block < w.heap.size
/-- a bundle in memory -/
structure BuR (B0 base : Nat) (w : World) (hb : Hb) (x : Bu4) : Prop where
  u : hb.u = x.u
  bw : hb.bw = (x.b.1 : Int)
  aw : hb.aw = (x.a.1 : Int)
  b : RowP B0 base w hb.b x.b.2
  a : RowP B0 base w hb.a x.a.2
/-- a slice of bundles reads as a list of bundles -/
structure BsAt4 (B0 base : Nat) (w : World) (A : Option Addr) (n : Nat) (hs : List Hb) (xs : List Bu4) : Prop where
  sl : SlAt encB4 8 ⟨⟨0, 0, 0, 0⟩, 0, ⟨none, 0, 0⟩, 0, ⟨none, 0, 0⟩⟩ w A n hs
  xl : xs.length = n
  bs : ∀ a, A = some a → base ≤ a.block ∧ a.block < w.heap.size
  inn : ∀ k, k < n → BuR B0 base w (hbAt hs k) (bxAt xs k)
section
variable {B0 base n : Nat} {w w' : World} {A : Option Addr} {hs : List Hb} {xs : List Bu4}
theorem RowP.later {h : Hd} {l : List Int} (H : RowP B0 base w h l) (hb : Below w.heap.size w w') : RowP B0 base w' h l := ⟨H.1.later hb, fun a e => ⟨(H.2 a e).1, Nat.lt_of_lt_of_le (H.2 a e).2 hb.size⟩⟩
theorem BuR.later {hb : Hb} {x : Bu4} (h : BuR B0 base w hb x) (hb' : Below w.heap.size w w') : BuR B0 base w' hb x := ⟨h.u, h.bw, h.aw, h.b.later hb', h.a.later hb'⟩
theorem BsAt4.later (h : BsAt4 B0 base w A n hs xs) (hb : Below w.heap.size w w') : BsAt4 B0 base w' A n hs xs :=
  ⟨⟨h.sl.1, h.sl.2.later hb⟩, h.xl, fun a e => ⟨(h.bs a e).1, Nat.lt_of_lt_of_le (h.bs a e).2 hb.size⟩, fun k hk => (h.inn k hk).later hb⟩
theorem BsAt4.get (h : BsAt4 B0 base w A n hs xs) {k : Nat} (hk : k < n) :
    ∃ b off, A = some ⟨b, off, none⟩ ∧ b < w.heap.size ∧ (∀ j u, (encB4 (hbAt hs k))[j]? = some u → w.cell? ⟨b, off + k * 8 + j, none⟩ = some u) ∧ BuR B0 base w (hbAt hs k) (bxAt xs k) := by
  obtain ⟨b, off, e, hb, hc⟩ := h.sl.2 (by omega)
  exact ⟨b, off, e, hb, fun j u hu => hc k hk j u hu, h.inn k hk⟩
/-- a store elsewhere -/
theorem RowP.far {h : Hd} {l : List Int} (H : RowP B0 base w h l) {p : Addr} (h1 : B0 ≤ p.block) (h2 : p.block < base) (u : Value) : RowP B0 base (w.setCell p u) h l :=
  ⟨ints_same H.1 (by simp) (fun a e => Below.heap_setCell w p u _ (by have := (H.2 a e).1; omega)), fun a e => ⟨(H.2 a e).1, by simpa using (H.2 a e).2⟩⟩
theorem BsAt4.far (h : BsAt4 B0 base w A n hs xs) {p : Addr} (h1 : B0 ≤ p.block) (h2 : p.block < base) (u : Value) : BsAt4 B0 base (w.setCell p u) A n hs xs := by
  refine ⟨⟨h.sl.1, fun hn => ?_⟩, h.xl, fun a e => ⟨(h.bs a e).1, by simpa using (h.bs a e).2⟩, fun k hk => ⟨(h.inn k hk).u, (h.inn k hk).bw, (h.inn k hk).aw, (h.inn k hk).b.far h1 h2 u, (h.inn k hk).a.far h1 h2 u⟩⟩
  obtain ⟨b, off, e, hb, hc⟩ := h.sl.2 hn
  exact ⟨b, off, e, by simpa using hb, fun k hk j v hv => (World.cell?_of_block (a := ⟨b, off + k * 8 + j, none⟩) (Below.heap_setCell w p u _ (by have := (h.bs _ e).1; show b ≠ p.block; simp at this; omega))).trans (hc k hk j v hv)⟩
theorem BsAt4.lower {base' : Nat} (h : BsAt4 B0 base w A n hs xs) (hb : base' ≤ base) : BsAt4 B0 base' w A n hs xs :=
  ⟨h.sl, h.xl, fun a e => ⟨Nat.le_trans hb (h.bs a e).1, (h.bs a e).2⟩, fun k hk => ⟨(h.inn k hk).u, (h.inn k hk).bw, (h.inn k hk).aw, ⟨(h.inn k hk).b.1, fun a e => ⟨((h.inn k hk).b.2 a e).1.imp_right (Nat.le_trans hb), ((h.inn k hk).b.2 a e).2⟩⟩, ⟨(h.inn k hk).a.1, fun a e => ⟨((h.inn k hk).a.2 a e).1.imp_right (Nat.le_trans hb), ((h.inn k hk).a.2 a e).2⟩⟩⟩⟩
theorem BsAt4.nil (w : World) : BsAt4 B0 base w none 0 [] [] := ⟨⟨rfl, fun h => absurd h (by omega)⟩, rfl, fun a e => (by cases e), fun k hk => absurd hk (by omega)⟩
end
set_option maxRecDepth 100000 in
set_option maxHeartbeats 3200000 in
theorem appendSeq4_c (g : Nat) (fst lb : Array Value) (Mem : World → Prop) (xs : List Bu4) (B0 : Nat) (hit : IterO Tryz.prog g fst lb Mem xs (AtC B0)) (eg : ∀ args w, (callFunc g args).run Tryz.prog w = .ok (.enter g args) w) (hn : xs.length ≤ 90000)
    (w : World) (hB0 : B0 ≤ w.heap.size) (hM : ∀ V, Below w.heap.size w V → Mem V) :
    Calls Tryz.prog 93 #[.slice none 0 0, .func (.func g) fst lb] w fun e w' => ∃ A c hs, e = .returned (.slice A xs.length c) ∧ BsAt4 B0 w.heap.size w' A xs.length hs xs ∧ Below w.heap.size w w' := by
  have HIT := Lib.hid hit
  have HM := Lib.hid hM
  have EG := Lib.hid eg
  clear hit hM eg
  refine (callsIn_wide (n := 6)).1 (callsIn_of_wp_marks Tryz.func93 rfl trivial ?_ rfl)
  simp only [Tryz.ntmps93, List.size_toArray, List.length_cons, List.length_nil, Nat.reduceAdd, Nat.reduceSub, Array.replicate_succ, Array.replicate_zero, List.push_toArray, List.append_toArray, List.nil_append, List.cons_append]
  gi_wp2
  obtain ⟨X, hX⟩ : ∃ X, w.alloc (.cells #[.slice none 0 0] 97) = X := ⟨_, rfl⟩
  rw [hX]
  have BX : Below w.heap.size w X := (al1 hX).1
  have zX : X.heap.size = w.heap.size + 1 := (al1 hX).2
  have B2 : Hid (Blk X w.heap.size 97 #[.slice none 0 0]) := by rw [← hX]; exact Blk.new w _ _
  clear hX
  have ZX := Lib.hid zX
  refine wpIn_rangeO (gf := g) (fst := fst) (lb := lb) rfl EG.out HIT.out (fun K O x args W h => by obtain ⟨hb, e, -⟩ := h; rw [e]; rfl)
    (fun K O k W => (∀ b, O b → K b) ∧ (∀ b, K b → b < W.heap.size) ∧ Below w.heap.size w W ∧ ∃ v hs, Blk W w.heap.size 97 #[v] ∧ W.ownsRow (X.heap.size + 2) 105 8 v k (hs.flatMap encB4) ∧ hs.length = k ∧ (∀ j, j < k → BuC B0 K O (bxAt xs j) (hbAt hs j) W) ∧ (∀ q, v.ownBlock = some q → ¬ K q))
    (fun c W => False) ?hI ?hIt ?hIx ?hmem ?h0 ?hround ?hdone ?hstop
  case hI =>
    rintro K O K' O' k W W' hK ⟨hO, hKb, a1, v, hs, b1, b2, b3, b4, b5⟩ hst
    have hn : ∀ b, O b → X.heap.size + 2 ≤ b := fun b hb => hK b (hO b hb)
    refine ⟨hst.inO, fun b h => (hst.newK b h).elim (fun e => Nat.lt_of_lt_of_le (hKb b e) hst.size) (fun e => e.2), hst.below (fun b hb => by have := hn b hb; omega) a1.size a1, v, hs, hst.blk b1 (fun e => by have := hn _ e; omega), hst.own b2 (fun q hq e => b5 q hq (hO q e)), b3, fun j hj => (b4 j hj).same hst.size (fun b _ h2 h3 => hst.same b h3 h2) hst.sub hst.newO, fun q hq e => ?_⟩
    rcases hst.newK q e with h | h
    · exact b5 q hq h
    · have := (b2.lt q hq).2; omega
  case hIt =>
    rintro K O k W W' hK hs' ⟨hO, hKb, a1, v, hs, b1, b2, b3, b4, b5⟩ ht
    exact ⟨hO, fun b h => Nat.lt_of_lt_of_le (hKb b h) ht.size, ht.below (by omega) a1.size a1, v, hs, ht.blk b1 (by omega), ht.own b2 (fun q hq => by have := (b2.lt q hq).1; omega), b3,
      fun j hj => (b4 j hj).same ht.size (fun b h1 _ h3 => ht.same b h3 (by rcases h1 with h | h; have := hK b h; omega; omega) (by rcases h1 with h | h; have := hK b h; omega; omega)) (fun _ h => h) (fun _ h => .inl h), b5⟩
  case hIx => exact fun c W W' h => h.elim
  case hmem => exact fun K O k W h => HM.out _ h.2.2.1
  case h0 =>
    intro W hb hz
    exact ⟨fun b h => h, fun b h => h.elim, BX.trans (hb.mono (by omega)), .slice none 0 0, [], B2.out.below hb (by omega), World.ownsRow_nil _ _ _ _, rfl, fun j hj => absurd hj (by omega), fun q hq => by cases hq⟩
  case hround =>
    rintro K O k x args W1 hK hO hs' hx ⟨-, hKb, a1, v, hs, b1, b2, b3, b4, b5⟩ ⟨hb, rfl, hB⟩
    have hkl := (List.getElem?_eq_some_iff.1 hx).1
    have HXX := Lib.hid (bxAt_get hx)
    have HBC := Lib.hid hB
    have HA1 := Lib.hid a1
    have HB1 := Lib.hid b1
    have HB2 := Lib.hid b2
    have HB3 := Lib.hid b3
    have HB4 := Lib.hid b4
    have HB5 := Lib.hid b5
    have HVL := Lib.hid b2.lt
    clear hx hB a1 b1 b2 b3 b4 b5 zX
    obtain ⟨⟨u0, u1, u2, u3⟩, bw, ⟨bA, bn, bc⟩, aw, ⟨aA, an, ac⟩⟩ := hb
    simp only [encB4]
    gi_wp2
    have hbb : Below W1.heap.size W1 (W1.alloc (.cells #[.int .i64 u0, .int .i64 u1, .int .i64 u2, .int .i64 u3, .int .i64 bw, .slice bA bn bc, .int .i64 aw, .slice aA an ac] 105)) := by (repeat first | with_reducible assumption | with_reducible exact Below.refl _ _ | (with_reducible refine Below.alloc ?_ ?side _; case side => (first | omega | (with_reducible exact Below.size (by assumption)) | (simp; done) | (simp; omega))) | (with_reducible refine Below.setCell ?_ ?side _; case side => (first | omega | (with_reducible exact Below.size (by assumption)) | (simp; done) | (simp; omega))) | with_reducible refine Below.drew ?_ | with_reducible refine below_drewN ?_ _ | (with_reducible refine below_step (by assumption) ?side ?_; case side => (first | omega | (with_reducible exact Below.size (by assumption)) | (simp; done) | (simp; omega))))
    refine ⟨.of_below hbb (by omega), .of_below hbb, fun W2 ht => ?_⟩
    have hzt := ht.size
    simp only [World.size_alloc] at hzt
    have q5 : Hid (Blk W2 W1.heap.size 105 #[.int .i64 u0, .int .i64 u1, .int .i64 u2, .int .i64 u3, .int .i64 bw, .slice bA bn bc, .int .i64 aw, .slice aA an ac]) := Lib.hid (ht.blk (Blk.new W1 _ _) (by omega))
    have zx := ZX.out
    have HB22 := Lib.hid (ht.blk (HB1.out.below hbb HB1.out.lt) (by omega))
    have HO2 := Lib.hid (ht.own (own_below HB2.out hbb) (fun q hq => by have := (HVL.out q hq).1; omega))
    have same2 : ∀ b, (K b ∨ b < B0) → ¬ O b → b < W1.heap.size → W2.heap[b]? = W1.heap[b]? := fun b h1 _ h3 =>
      (ht.same b (by simp; omega) (by rcases h1 with h | h; have := hK b h; omega; omega) (by rcases h1 with h | h; have := hK b h; omega; omega)).trans (hbb.block b h3)
    have HR2 := Lib.hid (fun j hj => (HB4.out j hj).same (W' := W2) (by omega) same2 (fun _ h => h) (fun _ h => .inl h))
    have HX2 := Lib.hid (HBC.out.same (W' := W2) (by omega) same2 (fun _ h => h) (fun _ h => .inl h))
    have HA2 := Lib.hid (ht.below (n := w.heap.size) (by omega) (by have := HA1.out.size; simp; omega) (HA1.out.trans (hbb.mono HA1.out.size)))
    have c2 := HB22.out.cell
    have l2 := HB22.out.lt
    have c5 := q5.out.cell
    have l5 := q5.out.lt
    clear same2 ht hbb zx
    gi_wp2_with (gi_at_builtin; go_must (refine appendIn4 _ (enc := encB4) (d := (⟨⟨0, 0, 0, 0⟩, 0, ⟨none, 0, 0⟩, 0, ⟨none, 0, 0⟩⟩ : Hb)) rfl (.tmp 8) (.tmp 10) _ rfl (X.heap.size + 2) _ 8 96 bun4E encB4_len encB4_one v k hs rfl ?_ _ 1 _ [⟨⟨u0, u1, u2, u3⟩, bw, ⟨bA, bn, bc⟩, aw, ⟨aA, an, ac⟩⟩] rfl ?_ ?_ ?_ ?_; (exact HO2.out.alloc _); (exact sl_new encB4_len rfl rfl rfl); (focus omega); (focus (simp; omega)); (intro v5 w5 ho5 hg5 hv5; obtain ⟨A5, c5', rfl, -, -⟩ := SlAt.of_own (d := (⟨⟨0, 0, 0, 0⟩, 0, ⟨none, 0, 0⟩, 0, ⟨none, 0, 0⟩⟩ : Hb)) encB4_len ho5 (by have := HB3.out; simp; omega); have BW := ((HB22.out.alloc _).grown hg5 (fun e => by have := (HVL.out _ e.symm).1; have := ZX.out; omega)); have y0 := BW.cell 0; have y1 := BW.frozen 0; have y2 := BW.lt; have HO5 := Lib.hid ho5; have HG5 := Lib.hid hg5; have HV5 := Lib.hid hv5; have HBW := Lib.hid BW; clear ho5 hg5 hv5 BW)))
    have zx := ZX.out
    have zg := HG5.out.size
    simp only [World.size_alloc] at zg
    have kp : ∀ b, b < W2.heap.size → some b ≠ v.ownBlock → b ≠ w.heap.size → (w5.setCell ⟨w.heap.size, 0, none⟩ (.slice A5 (k + 1) c5')).heap[b]? = W2.heap[b]? := fun b h1 h2 h3 =>
      (Below.heap_setCell w5 ⟨w.heap.size, 0, none⟩ _ b h3).trans ((HG5.out.block b (by simp; omega) h2).trans (Below.heap_alloc W2 _ b h1))
    have kpK : ∀ b, (K b ∨ b < B0) → ¬ O b → b < W2.heap.size → (w5.setCell ⟨w.heap.size, 0, none⟩ (.slice A5 (k + 1) c5')).heap[b]? = W2.heap[b]? := fun b h1 _ h3 =>
      kp b h3 (fun e => by
        have h4 := (HVL.out b e.symm).1
        rcases h1 with h | h
        · exact HB5.out b e.symm h
        · omega) (by rcases h1 with h | h; have := hK b h; omega; omega)
    refine ⟨⟨by simp; omega, kp _ (by omega) (fun e => by have := (HVL.out _ e.symm).1; omega) (by omega), kp _ (by omega) (fun e => by have := (HVL.out _ e.symm).1; omega) (by omega)⟩,
      ⟨by simp; omega, fun b h1 h2 => kp b h2 (fun e => HB5.out b e.symm h1) (by have := hK b h1; omega)⟩, hO, fun b h => by have := hKb b h; simp; omega, ?_, .slice A5 (k + 1) c5', hs ++ [⟨⟨u0, u1, u2, u3⟩, bw, ⟨bA, bn, bc⟩, aw, ⟨aA, an, ac⟩⟩], ?_, ?_, by have := HB3.out; simp; omega, fun j hj => ?_, fun q hq => ?_⟩
    · refine Below.setCell ?_ (by show w.heap.size ≤ w.heap.size; omega) _
      exact (HA2.out.alloc HA2.out.size _).grown HG5.out (by have := HA2.out.size; simp; omega) (fun q hq => by have := (HVL.out q hq).1; omega)
    · simpa using HBW.out.set_ 0 (.slice A5 (k + 1) c5')
    · exact own_set HO5.out (fun q hq => by have := (HO5.out.lt q hq).1; show q ≠ w.heap.size; omega)
    · rcases Nat.lt_succ_iff_lt_or_eq.1 hj with h | rfl
      · rw [hbAt_lt (by have := HB3.out; omega)]
        exact (HR2.out j h).same (by simp; omega) kpK (fun _ h => h) (fun _ h => .inl h)
      · have e1 := hbAt_eq (hs := hs) (h := ⟨⟨u0, u1, u2, u3⟩, bw, ⟨bA, bn, bc⟩, aw, ⟨aA, an, ac⟩⟩)
        rw [HB3.out] at e1
        rw [e1, HXX.out]
        exact HX2.out.same (by simp; omega) kpK (fun _ h => h) (fun _ h => .inl h)
    · rcases HV5.out with h | h
      · rw [h] at hq; exact HB5.out q hq
      · rw [h] at hq
        intro hk
        have := hKb q hk
        have e := Option.some.inj hq
        simp at e
        omega
  case hdone =>
    rintro K O W hK hs' ⟨hO, hKb, a1, v, hs, b1, b2, b3, b4, b5⟩ hD
    have c2 := b1.cell
    have l2 := b1.lt
    have HA := Lib.hid a1
    have HO := Lib.hid b2
    have H3 := Lib.hid b3
    have HR := Lib.hid b4
    have zx := ZX.out
    have zD := (Array.getElem?_eq_some_iff.1 hD).1
    clear a1 b1 b2 b3 b4 b5 zx zX
    gi_wp2
    obtain ⟨A5, c5, rfl, -, hsl⟩ := SlAt.of_own (d := (⟨⟨0, 0, 0, 0⟩, 0, ⟨none, 0, 0⟩, 0, ⟨none, 0, 0⟩⟩ : Hb)) encB4_len HO.out H3.out
    refine leave_turn (v := .slice A5 xs.length c5) hD (fun W' ht => by simp [results, Tryz.results93, go_sem]) (fun W' ht => ?_)
    have zx := ZX.out
    have ho' := ht.own HO.out (fun q hq => by have := (HO.out.lt q hq).1; omega)
    obtain ⟨A6, c6, e6, -, hsl'⟩ := SlAt.of_own (d := (⟨⟨0, 0, 0, 0⟩, 0, ⟨none, 0, 0⟩, 0, ⟨none, 0, 0⟩⟩ : Hb)) encB4_len ho' H3.out
    cases e6
    refine ⟨A5, c5, hs, rfl, ⟨hsl', rfl, fun a e => by have := own_addr ho' a e; omega, fun j hj => ?_⟩, ht.below (by omega) (by omega) HA.out⟩
    have h := (HR.out j hj).same (W' := W') (K' := K) (O' := O) ht.size (fun b h1 _ h3 => ht.same b h3 (by rcases h1 with h | h; have := hK b h; omega; omega) (by rcases h1 with h | h; have := hK b h; omega; omega)) (fun _ h => h) (fun _ h => .inl h)
    exact ⟨h.u, h.bw, h.aw, ⟨h.b.1, fun a e => ⟨by rcases (h.b.2 a e).1 with h | h; have := hK _ h; omega; omega, (h.b.2 a e).2.2⟩⟩, ⟨h.a.1, fun a e => ⟨by rcases (h.a.2 a e).1 with h | h; have := hK _ h; omega; omega, (h.a.2 a e).2.2⟩⟩⟩
  case hstop => exact fun c W h => h.elim
set_option maxHeartbeats 1600000 in
theorem collect4_c (g : Nat) (fst lb : Array Value) (Mem : World → Prop) (xs : List Bu4) (B0 : Nat) (hit : IterO Tryz.prog g fst lb Mem xs (AtC B0)) (eg : ∀ args w, (callFunc g args).run Tryz.prog w = .ok (.enter g args) w) (hn : xs.length ≤ 90000)
    (w : World) (hB0 : B0 ≤ w.heap.size) (hM : ∀ V, Below w.heap.size w V → Mem V) :
    Calls Tryz.prog 73 #[.func (.func g) fst lb] w fun e w' => ∃ A c hs, e = .returned (.slice A xs.length c) ∧ BsAt4 B0 w.heap.size w' A xs.length hs xs ∧ Below w.heap.size w w' := by
  have HC := Lib.hid (appendSeq4_c g fst lb Mem xs B0 hit eg hn w hB0 hM)
  clear hit eg hM
  go_enter Tryz.func73, Tryz.ntmps73
  go_wp2_with (go_at_call 93; refine HC.out.mono ?_; rintro e w1 ⟨A, c, hs, rfl, hB, hb⟩)
  go_ret
  exact ⟨A, c, hs, rfl, hB, hb⟩

end Go.Proofs.YtcbeiadimchknaaGreat

namespace Go.Proofs.YtcbeiadimchknaaGreat
open Go.RowKit
open Go.Sort (grow)
set_option linter.unusedVariables false
set_option linter.unusedSimpArgs false

/-- which error -/
def op4 (p : P4) (is : Bool) : Int := bif ck4 p then (bif is then (bif (tr4 p).isEmpty then 3 else 0) else 1) else 40
/-- which truths are handed back -/
def ol4 (p : P4) (is : Bool) : List Bu4 := bif ck4 p && is then tr4 p else []
def Op4 (Ar : Option Addr) (nr cr : Nat) (Ad : Option Addr) (nd cd : Nat) (p : P4) (z : Int) (l : List Bu4) (w : World) (e : Ending) (w' : World) : Prop :=
  ∃ A c hs, e = .returned (.tuple #[.agg #[.int .i64 p.ir, .int .i64 p.glo, .int .i64 p.ghi, .slice Ar nr cr, .slice Ad nd cd, .int .i64 p.wr], .slice A l.length c, .int .i64 z]) ∧ BsAt4 0 w.heap.size w' A l.length hs l ∧ Below w.heap.size w w'
set_option maxRecDepth 100000 in
set_option maxHeartbeats 3200000 in
theorem open4_c (Ar : Option Addr) (nr cr : Nat) (Ad : Option Addr) (nd cd : Nat) (p : P4) (is : Bool) (w : World) (hnr : nr ≤ 40) (hnd : nd ≤ 40) (HM : MemP Ar nr Ad nd p w) (hn : ck4 p = true → (tr4 p).length ≤ 90000) :
    Calls Tryz.prog 44 #[.agg #[.int .i64 p.ir, .int .i64 p.glo, .int .i64 p.ghi, .slice Ar nr cr, .slice Ad nd cd, .int .i64 p.wr], .bool is] w (Op4 Ar nr cr Ad nd cd p (op4 p is) (ol4 p is) w) := by
  have HCK := Lib.hid (fun V (hV : Below w.heap.size w V) => check4_c Ar nr cr Ad nd cd p V hnr hnd (HM.later hV))
  have HMI := Lib.hid HM
  have hr := HM.hr.1
  have hd := HM.hd.1
  have HTR := Lib.hid (fun (ok : Ok4 nr nd p) (hl : (tr4 p).length ≤ 90000) V (hV : Below w.heap.size w V) => collect4_c 74 #[.agg #[.int .i64 p.ir, .int .i64 p.glo, .int .i64 p.ghi, .slice Ar nr cr, .slice Ad nd cd, .int .i64 p.wr]] #[] (MemP Ar nr Ad nd p) (tr4 p) 0 ((truths4_c Ar nr cr Ad nd cd p ok).mono fun K O x args W h => h.atC) (enters_of Tryz.func74 (by kernel_rfl) rfl) hl V (Nat.zero_le _) (fun Z hZ => HM.later (hV.trans (hZ.mono hV.size))))
  have HOK := Lib.hid (fun (h : ck4 p = true) => ok4_of h hr hd)
  have HTN := Lib.hid hn
  unfold Op4 op4 ol4
  obtain ⟨ck, hck⟩ : ∃ c, ck4 p = c := ⟨_, rfl⟩
  rw [hck] at HCK HOK HTN ⊢
  obtain ⟨ts, hts⟩ : ∃ t, tr4 p = t := ⟨_, rfl⟩
  rw [hts] at HTR HTN ⊢
  clear HM hr hd hn hck hts
  have HTR2 := Lib.hid (fun (h : ck = true) => HTR.out (HOK.out h) (HTN.out h))
  clear HTR HOK HTN
  obtain ⟨ir, glo, ghi, wrg, rods, res⟩ := p
  simp only at HCK HTR2 ⊢
  cases ck
  · replace HCK := Lib.hid (HCK.out)
    simp only [cond_false, Bool.false_and, List.length_nil]
    rw [show er4 false = 40 from rfl] at HCK
    go_enter Tryz.func44, Tryz.ntmps44
    go_upto_region 2 with (fail)
    go_name_world Y hY
    have BY : Below w.heap.size w Y := (al3 hY).1
    have zY := (al3 hY).2
    have q0 := (al3_0 hY).2.1
    have l0 := (al3_0 hY).1
    have q2 := (al3_2 hY).2.1
    have l2 := (al3_2 hY).1
    have HZ : Hid (Blk Y (w.heap.size + 1) 96 #[.int .i64 0, .int .i64 0, .int .i64 0, .slice none 0 0, .slice none 0 0, .int .i64 0]) := by
      rw [← hY]
      have := Blk.new (w.alloc (.cells #[.int .i64 ir, .int .i64 glo, .int .i64 ghi, .slice Ar nr cr, .slice Ad nd cd, .int .i64 wrg] 50)) 96 #[.int .i64 0, .int .i64 0, .int .i64 0, .slice none 0 0, .slice none 0 0, .int .i64 0]
      rw [World.size_alloc] at this
      exact this.alloc _
    have ZY := Lib.hid zY
    clear hY zY
    go_wp2_with (go_at_call 72; refine (HCK.out Y BY).mono ?_; (rintro e w1 ⟨rfl, hb1⟩); (have z1 := hb1.size); (have q21 := fun j => (hb1.cell (p := ⟨w.heap.size + 1 + 1, j, none⟩) l2).trans (q2 j)); (have l21 := Nat.lt_of_lt_of_le l2 z1); (have HZ1 := Lib.hid (HZ.out.below hb1 HZ.out.lt)); (have k1 := HZ1.out.cell); (have f1 := HZ1.out.frozen); (have lz1 := HZ1.out.lt); (have B1 := BY.trans (hb1.mono BY.size)); clear hb1)
    have hbF := (((((HZ1.out.set_ 0 (.int .i64 ir)).set_ 1 (.int .i64 glo)).set_ 2 (.int .i64 ghi)).set_ 3 (.slice Ar nr cr)).set_ 4 (.slice Ad nd cd)).set_ 5 (.int .i64 wrg)
    have d0 := hbF.cell 0
    have d1 := hbF.cell 1
    have d2 := hbF.cell 2
    have d3 := hbF.cell 3
    have d4 := hbF.cell 4
    have d5 := hbF.cell 5
    simp only [List.setIfInBounds_toArray, List.set_cons_zero, List.set_cons_succ] at d0 d1 d2 d3 d4 d5
    exact bodyPost_ret (v := .tuple #[.agg #[.int .i64 ir, .int .i64 glo, .int .i64 ghi, .slice Ar nr cr, .slice Ad nd cd, .int .i64 wrg], .slice none 0 0, .int .i64 40]) (by simp [results, Tryz.results44, go_sem, d0, d1, d2, d3, d4, d5]) rfl ⟨_, _, _, rfl, .nil _, by (repeat first | with_reducible assumption | with_reducible exact Below.refl _ _ | (with_reducible refine Below.alloc ?_ ?side _; case side => (first | omega | (with_reducible exact Below.size (by assumption)) | (simp; done) | (simp; omega))) | (with_reducible refine Below.setCell ?_ ?side _; case side => (first | omega | (with_reducible exact Below.size (by assumption)) | (simp; done) | (simp; omega))) | with_reducible refine Below.drew ?_ | with_reducible refine below_drewN ?_ _ | (with_reducible refine below_step (by assumption) ?side ?_; case side => (first | omega | (with_reducible exact Below.size (by assumption)) | (simp; done) | (simp; omega))))⟩
  rw [show er4 true = 0 from rfl] at HCK
  cases is
  · simp only [cond_true, cond_false, Bool.and_false, List.length_nil]
    go_enter Tryz.func44, Tryz.ntmps44
    go_upto_region 2 with (fail)
    go_name_world Y hY
    have BY : Below w.heap.size w Y := (al3 hY).1
    have zY := (al3 hY).2
    have q0 := (al3_0 hY).2.1
    have l0 := (al3_0 hY).1
    have q2 := (al3_2 hY).2.1
    have l2 := (al3_2 hY).1
    have HZ : Hid (Blk Y (w.heap.size + 1) 96 #[.int .i64 0, .int .i64 0, .int .i64 0, .slice none 0 0, .slice none 0 0, .int .i64 0]) := by
      rw [← hY]
      have := Blk.new (w.alloc (.cells #[.int .i64 ir, .int .i64 glo, .int .i64 ghi, .slice Ar nr cr, .slice Ad nd cd, .int .i64 wrg] 50)) 96 #[.int .i64 0, .int .i64 0, .int .i64 0, .slice none 0 0, .slice none 0 0, .int .i64 0]
      rw [World.size_alloc] at this
      exact this.alloc _
    have ZY := Lib.hid zY
    clear hY zY
    go_wp2_with (go_at_call 72; refine (HCK.out Y BY).mono ?_; (rintro e w1 ⟨rfl, hb1⟩); (have z1 := hb1.size); (have q21 := fun j => (hb1.cell (p := ⟨w.heap.size + 1 + 1, j, none⟩) l2).trans (q2 j)); (have l21 := Nat.lt_of_lt_of_le l2 z1); (have HZ1 := Lib.hid (HZ.out.below hb1 HZ.out.lt)); (have k1 := HZ1.out.cell); (have f1 := HZ1.out.frozen); (have lz1 := HZ1.out.lt); (have B1 := BY.trans (hb1.mono BY.size)); clear hb1)
    have hbF := (((((HZ1.out.set_ 0 (.int .i64 ir)).set_ 1 (.int .i64 glo)).set_ 2 (.int .i64 ghi)).set_ 3 (.slice Ar nr cr)).set_ 4 (.slice Ad nd cd)).set_ 5 (.int .i64 wrg)
    have d0 := hbF.cell 0
    have d1 := hbF.cell 1
    have d2 := hbF.cell 2
    have d3 := hbF.cell 3
    have d4 := hbF.cell 4
    have d5 := hbF.cell 5
    simp only [List.setIfInBounds_toArray, List.set_cons_zero, List.set_cons_succ] at d0 d1 d2 d3 d4 d5
    exact bodyPost_ret (v := .tuple #[.agg #[.int .i64 ir, .int .i64 glo, .int .i64 ghi, .slice Ar nr cr, .slice Ad nd cd, .int .i64 wrg], .slice none 0 0, .int .i64 1]) (by simp [results, Tryz.results44, go_sem, d0, d1, d2, d3, d4, d5]) rfl ⟨_, _, _, rfl, .nil _, by (repeat first | with_reducible assumption | with_reducible exact Below.refl _ _ | (with_reducible refine Below.alloc ?_ ?side _; case side => (first | omega | (with_reducible exact Below.size (by assumption)) | (simp; done) | (simp; omega))) | (with_reducible refine Below.setCell ?_ ?side _; case side => (first | omega | (with_reducible exact Below.size (by assumption)) | (simp; done) | (simp; omega))) | with_reducible refine Below.drew ?_ | with_reducible refine below_drewN ?_ _ | (with_reducible refine below_step (by assumption) ?side ?_; case side => (first | omega | (with_reducible exact Below.size (by assumption)) | (simp; done) | (simp; omega))))⟩
  simp only [cond_true, Bool.and_true]
  obtain ⟨m, hm⟩ : ∃ m, ts.length = m := ⟨_, rfl⟩
  rw [hm] at HTR2 ⊢
  have he : ts.isEmpty = decide (m = 0) := by rw [← hm]; cases ts <;> simp
  rw [he]
  have HTS := Lib.hid (fun V hV => HTR2.out rfl V hV)
  have HM0 := Lib.hid hm
  clear he HTR2 hm
  by_cases h0 : m = 0
  · subst h0
    simp only [decide_true, cond_true]
    have hB : ((0 : Int) == 0) = true := rfl
    go_enter Tryz.func44, Tryz.ntmps44
    go_upto_region 2 with (fail)
    go_name_world Y hY
    have BY : Below w.heap.size w Y := (al3 hY).1
    have zY := (al3 hY).2
    have q0 := (al3_0 hY).2.1
    have l0 := (al3_0 hY).1
    have q2 := (al3_2 hY).2.1
    have l2 := (al3_2 hY).1
    have HZ : Hid (Blk Y (w.heap.size + 1) 96 #[.int .i64 0, .int .i64 0, .int .i64 0, .slice none 0 0, .slice none 0 0, .int .i64 0]) := by
      rw [← hY]
      have := Blk.new (w.alloc (.cells #[.int .i64 ir, .int .i64 glo, .int .i64 ghi, .slice Ar nr cr, .slice Ad nd cd, .int .i64 wrg] 50)) 96 #[.int .i64 0, .int .i64 0, .int .i64 0, .slice none 0 0, .slice none 0 0, .int .i64 0]
      rw [World.size_alloc] at this
      exact this.alloc _
    have ZY := Lib.hid zY
    clear hY zY
    go_wp2_with (first | (go_at_call 72; refine (HCK.out Y BY).mono ?_; (rintro e w1 ⟨rfl, hb1⟩); (have z1 := hb1.size); (have q21 := fun j => (hb1.cell (p := ⟨w.heap.size + 1 + 1, j, none⟩) l2).trans (q2 j)); (have l21 := Nat.lt_of_lt_of_le l2 z1); (have HZ1 := Lib.hid (HZ.out.below hb1 HZ.out.lt)); (have B1 := BY.trans (hb1.mono BY.size)); clear hb1) | (go_at_call 73; refine (HTS.out w1 B1).mono ?_; (rintro e w2 ⟨A, c, hs, rfl, hBs, hb2⟩); (have z2 := hb2.size); (have q22 := fun j => (hb2.cell (p := ⟨w.heap.size + 1 + 1, j, none⟩) l21).trans (q21 j)); (have l22 := Nat.lt_of_lt_of_le l21 z2); (have HZ2 := Lib.hid (HZ1.out.below hb2 HZ1.out.lt)); (have k1 := HZ2.out.cell); (have f1 := HZ2.out.frozen); (have lz1 := HZ2.out.lt); (have B2 := B1.trans (hb2.mono B1.size)); (have HBs := Lib.hid hBs); clear hb2 hBs))
    have ht : ts = [] := List.eq_nil_of_length_eq_zero HM0.out
    rw [ht]
    have hbF := (((((HZ2.out.set_ 0 (.int .i64 ir)).set_ 1 (.int .i64 glo)).set_ 2 (.int .i64 ghi)).set_ 3 (.slice Ar nr cr)).set_ 4 (.slice Ad nd cd)).set_ 5 (.int .i64 wrg)
    have d0 := hbF.cell 0
    have d1 := hbF.cell 1
    have d2 := hbF.cell 2
    have d3 := hbF.cell 3
    have d4 := hbF.cell 4
    have d5 := hbF.cell 5
    simp only [List.setIfInBounds_toArray, List.set_cons_zero, List.set_cons_succ] at d0 d1 d2 d3 d4 d5
    exact bodyPost_ret (v := .tuple #[.agg #[.int .i64 ir, .int .i64 glo, .int .i64 ghi, .slice Ar nr cr, .slice Ad nd cd, .int .i64 wrg], .slice none 0 0, .int .i64 3]) (by simp [results, Tryz.results44, go_sem, d0, d1, d2, d3, d4, d5]) rfl ⟨_, _, _, rfl, .nil _, by (repeat first | with_reducible assumption | with_reducible exact Below.refl _ _ | (with_reducible refine Below.alloc ?_ ?side _; case side => (first | omega | (with_reducible exact Below.size (by assumption)) | (simp; done) | (simp; omega))) | (with_reducible refine Below.setCell ?_ ?side _; case side => (first | omega | (with_reducible exact Below.size (by assumption)) | (simp; done) | (simp; omega))) | with_reducible refine Below.drew ?_ | with_reducible refine below_drewN ?_ _ | (with_reducible refine below_step (by assumption) ?side ?_; case side => (first | omega | (with_reducible exact Below.size (by assumption)) | (simp; done) | (simp; omega))))⟩
  · have hB : ((m : Int) == 0) = false := by simp; omega
    rw [show decide (m = 0) = false by simp [h0]]
    simp only [cond_false]
    go_enter Tryz.func44, Tryz.ntmps44
    go_upto_region 2 with (fail)
    go_name_world Y hY
    have BY : Below w.heap.size w Y := (al3 hY).1
    have zY := (al3 hY).2
    have q0 := (al3_0 hY).2.1
    have l0 := (al3_0 hY).1
    have q2 := (al3_2 hY).2.1
    have l2 := (al3_2 hY).1
    have HZ : Hid (Blk Y (w.heap.size + 1) 96 #[.int .i64 0, .int .i64 0, .int .i64 0, .slice none 0 0, .slice none 0 0, .int .i64 0]) := by
      rw [← hY]
      have := Blk.new (w.alloc (.cells #[.int .i64 ir, .int .i64 glo, .int .i64 ghi, .slice Ar nr cr, .slice Ad nd cd, .int .i64 wrg] 50)) 96 #[.int .i64 0, .int .i64 0, .int .i64 0, .slice none 0 0, .slice none 0 0, .int .i64 0]
      rw [World.size_alloc] at this
      exact this.alloc _
    have ZY := Lib.hid zY
    clear hY zY
    go_wp2_with (first | (go_at_call 72; refine (HCK.out Y BY).mono ?_; (rintro e w1 ⟨rfl, hb1⟩); (have z1 := hb1.size); (have q21 := fun j => (hb1.cell (p := ⟨w.heap.size + 1 + 1, j, none⟩) l2).trans (q2 j)); (have l21 := Nat.lt_of_lt_of_le l2 z1); (have HZ1 := Lib.hid (HZ.out.below hb1 HZ.out.lt)); (have B1 := BY.trans (hb1.mono BY.size)); clear hb1) | (go_at_call 73; refine (HTS.out w1 B1).mono ?_; (rintro e w2 ⟨A, c, hs, rfl, hBs, hb2⟩); (have z2 := hb2.size); (have q22 := fun j => (hb2.cell (p := ⟨w.heap.size + 1 + 1, j, none⟩) l21).trans (q21 j)); (have l22 := Nat.lt_of_lt_of_le l21 z2); (have HZ2 := Lib.hid (HZ1.out.below hb2 HZ1.out.lt)); (have k1 := HZ2.out.cell); (have f1 := HZ2.out.frozen); (have lz1 := HZ2.out.lt); (have B2 := B1.trans (hb2.mono B1.size)); (have HBs := Lib.hid hBs); clear hb2 hBs))
    have hfar : ∀ (V : World) (i : Nat) (u : Value), BsAt4 0 w.heap.size V A m hs ts → True := fun _ _ _ _ => trivial
    have hz1 := ZY.out
    have hB6 := (((((HBs.out.far (p := ⟨w.heap.size + 1, 0, none⟩) (Nat.zero_le _) (by show w.heap.size + 1 < w1.heap.size; omega) (.int .i64 ir)).far (p := ⟨w.heap.size + 1, 1, none⟩) (Nat.zero_le _) (by show w.heap.size + 1 < w1.heap.size; omega) (.int .i64 glo)).far (p := ⟨w.heap.size + 1, 2, none⟩) (Nat.zero_le _) (by show w.heap.size + 1 < w1.heap.size; omega) (.int .i64 ghi)).far (p := ⟨w.heap.size + 1, 3, none⟩) (Nat.zero_le _) (by show w.heap.size + 1 < w1.heap.size; omega) (.slice Ar nr cr)).far (p := ⟨w.heap.size + 1, 4, none⟩) (Nat.zero_le _) (by show w.heap.size + 1 < w1.heap.size; omega) (.slice Ad nd cd)).far (p := ⟨w.heap.size + 1, 5, none⟩) (Nat.zero_le _) (by show w.heap.size + 1 < w1.heap.size; omega) (.int .i64 wrg)
    have hB7 := Lib.hid (hB6.lower (base' := w.heap.size) (by omega))
    clear hB6 hfar
    have hbF := (((((HZ2.out.set_ 0 (.int .i64 ir)).set_ 1 (.int .i64 glo)).set_ 2 (.int .i64 ghi)).set_ 3 (.slice Ar nr cr)).set_ 4 (.slice Ad nd cd)).set_ 5 (.int .i64 wrg)
    have d0 := hbF.cell 0
    have d1 := hbF.cell 1
    have d2 := hbF.cell 2
    have d3 := hbF.cell 3
    have d4 := hbF.cell 4
    have d5 := hbF.cell 5
    simp only [List.setIfInBounds_toArray, List.set_cons_zero, List.set_cons_succ] at d0 d1 d2 d3 d4 d5
    exact bodyPost_ret (v := .tuple #[.agg #[.int .i64 ir, .int .i64 glo, .int .i64 ghi, .slice Ar nr cr, .slice Ad nd cd, .int .i64 wrg], .slice A m c, .int .i64 0]) (by simp [results, Tryz.results44, go_sem, d0, d1, d2, d3, d4, d5]) rfl ⟨_, _, _, rfl, hB7.out, by (repeat first | with_reducible assumption | with_reducible exact Below.refl _ _ | (with_reducible refine Below.alloc ?_ ?side _; case side => (first | omega | (with_reducible exact Below.size (by assumption)) | (simp; done) | (simp; omega))) | (with_reducible refine Below.setCell ?_ ?side _; case side => (first | omega | (with_reducible exact Below.size (by assumption)) | (simp; done) | (simp; omega))) | with_reducible refine Below.drew ?_ | with_reducible refine below_drewN ?_ _ | (with_reducible refine below_step (by assumption) ?side ?_; case side => (first | omega | (with_reducible exact Below.size (by assumption)) | (simp; done) | (simp; omega))))⟩

end Go.Proofs.YtcbeiadimchknaaGreat
