/- bundles of stretch (layer 4): all ways in which it can have been, handed to a function. -/
import Derived.Test.YtcbeiadimchknaaGreatQp34
import Derived.Test.YtcbeiadimchknaaGreatQp39
import Derived.BigRegionIn
import Derived.Shelf.RegionOpen
import Derived.LoopIn
namespace Go.Proofs.YtcbeiadimchknaaGreat
open Go.RowKit
open Go.Sort (grow)
set_option linter.unusedVariables false
set_option linter.unusedSimpArgs false

attribute [local go_sem] Oper.semAt_some
/-- a row of lengths in memory that the iterator has made and no longer writes -/
def RowK (K O : Nat → Prop) (W : World) (h : Hd) (l : List Int) : Prop := IntsAt W h.A h.n l ∧ ∀ a, h.A = some a → K a.block ∧ ¬ O a.block ∧ a.block < W.heap.size
structure BuAt (K O : Nat → Prop) (x : Bu4) (hb : Hb) (W : World) : Prop where
  u : hb.u = x.u
  bw : hb.bw = (x.b.1 : Int)
  aw : hb.aw = (x.a.1 : Int)
  b : RowK K O W hb.b x.b.2
  a : RowK K O W hb.a x.a.2
def AtB (K O : Nat → Prop) (x : Bu4) (args : Array Value) (W : World) : Prop := ∃ hb, args = #[.agg (encB4 hb).toArray] ∧ BuAt K O x hb W
theorem RowK.stp {K O K' O' : Nat → Prop} {W W' : World} {h : Hd} {l : List Int} (H : RowK K O W h l) (st : Stp K O K' O' W W') : RowK K' O' W' h l := by
  refine ⟨⟨H.1.1, fun hn => ?_⟩, fun a e => ?_⟩
  · obtain ⟨b, off, e, hb, hc⟩ := H.1.2 hn
    have h1 := (H.2 _ e).2.1
    exact ⟨b, off, e, Nat.lt_of_lt_of_le hb st.size, fun k hk j u hu => (World.cell?_of_block (a := ⟨b, off + k * 1 + j, none⟩) (st.same b hb h1)).trans (hc k hk j u hu)⟩
  · obtain ⟨h1, h2, h3⟩ := H.2 a e
    exact ⟨st.sub _ h1, fun e' => (st.newO _ e').elim h2 (fun e'' => by omega), Nat.lt_of_lt_of_le h3 st.size⟩
theorem BuAt.stp {K O K' O' : Nat → Prop} {W W' : World} {x : Bu4} {hb : Hb} (H : BuAt K O x hb W) (st : Stp K O K' O' W W') : BuAt K' O' x hb W' := ⟨H.u, H.bw, H.aw, H.b.stp st, H.a.stp st⟩
/-- the bundles of one way in which the rods can be worn -/
def bu4 (p : P4) (u : W4) : List Bu4 := (gr4 p 1 u).flatMap fun g => (gr4 p 2 u).map fun h => ⟨u, g, h⟩
theorem bs4_eq {p : P4} : bs4 p = (ws4 p).flatMap (bu4 p) := rfl
theorem bu_take {u : W4} {gs hs : List (Nat × List Int)} {i : Nat} (h : i ≤ gs.length) : ((gs.take i).flatMap fun g => hs.map fun h => (⟨u, g, h⟩ : Bu4)).length = i * hs.length := by
  induction i with
  | zero => simp
  | succ i ih =>
    rw [take_one (a := gs[i]) (List.getElem?_eq_getElem (by omega)), List.length_append, ih (by omega), List.length_map, Nat.succ_mul]
theorem bu_get {u : W4} {gs hs : List (Nat × List Int)} {i j : Nat} {g h : Nat × List Int} (hi : gs[i]? = some g) (hj : hs[j]? = some h) : (gs.flatMap fun g => hs.map fun h => (⟨u, g, h⟩ : Bu4))[i * hs.length + j]? = some ⟨u, g, h⟩ := by
  have h1 := (List.getElem?_eq_some_iff.1 hi).1
  rw [← bu_take (u := u) (hs := hs) (Nat.le_of_lt h1)]
  exact flat_seg hi (by rw [List.getElem?_map, hj]; rfl)
theorem bu_len {p : P4} {u : W4} : (bu4 p u).length = (gr4 p 1 u).length * (gr4 p 2 u).length := by
  unfold bu4
  have := bu_take (u := u) (gs := gr4 p 1 u) (hs := gr4 p 2 u) (Nat.le_refl _)
  rwa [List.take_length] at this
theorem ws4_ok {nr nd : Nat} {p : P4} (ok : Ok4 nr nd p) {u : W4} (hu : u ∈ ws4 p) : OkW u := by
  have key : ∀ (r i : Nat) (v : W4), i + r = nr → OkW v → ∀ u ∈ wo4 p.rods i r v, OkW u := by
    intro r
    induction r with
    | zero => intro i v _ hv u hu; unfold wo4 at hu; rw [List.mem_singleton] at hu; subst hu; exact hv
    | succ r ih =>
      intro i v hi hv u hu
      unfold wo4 at hu
      obtain ⟨n, hn, hu⟩ := List.mem_flatMap.1 hu
      have h1 := ups_mem.1 hn
      have h2 := ok.ro i (by omega)
      refine ih (i + 1) _ (by omega) (fun q hq => ?_) u hu
      by_cases e : q = i
      · subst e; rw [W4.at_put]; omega
      · rw [W4.at_put_ne (by omega) (by have := ok.nr4; omega) e]; exact hv q hq
  refine key p.rods.length 0 ⟨0, 0, 0, 0⟩ (by have := ok.lr; omega) (fun q hq => ?_) u hu
  obtain rfl | rfl | rfl | rfl : q = 0 ∨ q = 1 ∨ q = 2 ∨ q = 3 := by omega
  all_goals exact ⟨Int.le_refl _, by decide⟩
theorem Stp.wide9 {n B m : Nat} {K O K' O' K9 : Nat → Prop} {W1 W2 : World} (h : Stp K O K' O' W1 W2) (h9 : ∀ b, KS n m K b → K9 b) (hO9 : ∀ b, OS B O b → K9 b) (h1 : n ≤ B) (h2 : B + 2 = m) : Stp K9 (OS B O) (fun b => K9 b ∨ K' b) (OS B O') W1 W2 :=
  ⟨h.os, h.tape, h.output, h.size, fun b hb => .inl hb, fun b hb => hb.elim .inl fun e => (h.newK b e).imp_left fun e => h9 b (.inl e), fun b hb => hb.elim (fun e => (h.newO b e).imp_left .inl) fun e => .inl (.inr e),
   fun b hb => hb.elim (fun e => .inr (h.inO b e)) (fun e => .inl (hO9 b (.inr e))), fun k h3 h4 => h.same k h3 fun e => h4 (.inl e)⟩
theorem ints_same {W W' : World} {A : Option Addr} {n : Nat} {l : List Int} (h : IntsAt W A n l) (hz : W.heap.size ≤ W'.heap.size) (hs : ∀ a, A = some a → W'.heap[a.block]? = W.heap[a.block]?) : IntsAt W' A n l := by
  refine ⟨h.1, fun hn => ?_⟩
  obtain ⟨b, off, e, hb, hc⟩ := h.2 hn
  exact ⟨b, off, e, Nat.lt_of_lt_of_le hb hz, fun k hk j u hu => (World.cell?_of_block (a := ⟨b, off + k * 1 + j, none⟩) (hs ⟨b, off, none⟩ e)).trans (hc k hk j u hu)⟩
/-- what groups has left stands as long as its blocks do -/
theorem RowB.kp {base : Nat} {KB : Nat → Prop} {w4 wr : World} {h : Hd} {l : List Int} (H : RowB base w4 h l) (hB : ∀ b, base ≤ b → b < w4.heap.size → KB b) (hk : KpO KB w4 wr) : RowB base wr h l :=
  ⟨ints_same H.1 hk.1 fun a e => hk.2 _ (hB _ (H.2 a e).1 (H.2 a e).2) (H.2 a e).2, fun a e => ⟨(H.2 a e).1, Nat.lt_of_lt_of_le (H.2 a e).2 hk.1⟩⟩
theorem GsAt4.kp {base n : Nat} {KB : Nat → Prop} {w4 wr : World} {A : Option Addr} {hs : List Hg4} {gs : List (Nat × List Int)} (H : GsAt4 base w4 A n hs gs) (hB : ∀ b, base ≤ b → b < w4.heap.size → KB b) (hk : KpO KB w4 wr) : GsAt4 base wr A n hs gs := by
  refine ⟨⟨H.sl.1, fun hn => ?_⟩, H.gl, fun a e => ⟨(H.bs a e).1, Nat.lt_of_lt_of_le (H.bs a e).2 hk.1⟩, fun k h => ⟨(H.inn k h).1, (H.inn k h).2.kp hB hk⟩⟩
  obtain ⟨b, off, e, hb, hc⟩ := H.sl.2 hn
  exact ⟨b, off, e, Nat.lt_of_lt_of_le hb hk.1, fun k h j u hu => (World.cell?_of_block (a := ⟨b, off + k * 2 + j, none⟩) (hk.2 _ (hB _ (H.bs _ e).1 (H.bs _ e).2) hb)).trans (hc k h j u hu)⟩
theorem KpO.step {K K2 : Nat → Prop} {w V W' : World} (h : KpO K w V) (k : KpO K2 V W') (hs : ∀ b, K b → K2 b) : KpO K w W' :=
  ⟨Nat.le_trans h.1 k.1, fun b h1 h2 => (k.2 b (hs b h1) (Nat.lt_of_lt_of_le h2 h.1)).trans (h.2 b h1 h2)⟩
theorem KeepL.step {B : Nat} {K : Nat → Prop} {W2 w4 wr : World} (hb : Below W2.heap.size W2 w4) (h : KpO K w4 wr) (h1 : K B) (h2 : K (B + 1)) (hs : B + 1 < W2.heap.size) : KeepL B W2 wr :=
  (KeepL.of_below hb hs).trans (.of_kp h h1 h2 (Nat.lt_of_lt_of_le hs hb.size))
set_option maxRecDepth 100000 in
set_option maxHeartbeats 3200000 in
theorem bundles_c (Ar : Option Addr) (nr cr : Nat) (Ad : Option Addr) (nd cd : Nat) (p : P4) (ok : Ok4 nr nd p) :
    IterO Tryz.prog 94 #[.agg #[.int .i64 p.ir, .int .i64 p.glo, .int .i64 p.ghi, .slice Ar nr cr, .slice Ad nd cd, .int .i64 p.wr]] #[] (MemP Ar nr Ad nd p) (bs4 p) AtB := by
  intro l J Jx W hM hS hX hY h0
  have HIT := Lib.hid (rods_c Ar nr cr Ad nd cd p ok)
  have HGR := Lib.hid (fun wh u (hu : OkW u) V (hV : MemP Ar nr Ad nd p V) => groups4_c Ar nr cr Ad nd cd p ok wh u hu V hV)
  have HWS := Lib.hid (fun u (hu : u ∈ ws4 p) => ws4_ok ok hu)
  obtain ⟨xs, hxs⟩ : ∃ xs, ws4 p = xs := ⟨_, rfl⟩
  obtain ⟨ys, hys⟩ : ∃ ys, bs4 p = ys := ⟨_, rfl⟩
  have hyx : ys = xs.flatMap (bu4 p) := by rw [← hys, ← hxs]; rfl
  obtain ⟨pos, hps⟩ : ∃ pos : Nat → Nat, (fun t => ((xs.take t).flatMap (bu4 p)).length) = pos := ⟨_, rfl⟩
  have HPS := Lib.hid (fun t => congrFun hps t)
  have HPE : Hid (pos xs.length = ys.length) := Lib.hid (by rw [← hps, hyx]; show ((xs.take xs.length).flatMap _).length = _; rw [List.take_length])
  have HP0 : pos 0 = 0 := by rw [← hps]; rfl
  have HP1 := Lib.hid (fun (t : Nat) (u : W4) (h : xs[t]? = some u) => show pos (t + 1) = pos t + (bu4 p u).length by rw [← hps]; show ((xs.take (t + 1)).flatMap _).length = ((xs.take t).flatMap _).length + _; rw [take_one h, List.length_append])
  rw [hxs] at HIT HWS
  rw [hys] at hY ⊢
  have HYX := Lib.hid hyx
  have M0 := hM _ _ _ _ h0
  have HM := Lib.hid hM
  have HS := Lib.hid hS
  have HX := Lib.hid hX
  have HY := Lib.hid hY
  have H0 := Lib.hid h0
  have OK := Lib.hid ok
  have hnd8 := ok.nd8
  have hld := ok.ld
  clear hM hS hX hY h0 hxs hys hyx hps M0 ok
  show Calls Tryz.prog 94 #[.agg #[.int .i64 p.ir, .int .i64 p.glo, .int .i64 p.ghi, .slice Ar nr cr, .slice Ad nd cd, .int .i64 p.wr], .func (.yield l) #[] #[]] W _
  refine (callsIn_wide (n := 6)).1 (callsIn_of_wp_marks Tryz.func94 rfl trivial ?_ rfl)
  simp only [Tryz.ntmps94, List.size_toArray, List.length_cons, List.length_nil, Nat.reduceAdd, Nat.reduceSub, Array.replicate_succ, Array.replicate_zero, List.push_toArray, List.append_toArray, List.nil_append, List.cons_append]
  gi_wp2
  obtain ⟨X, hX⟩ : ∃ X, (W.alloc (.cells #[.int .i64 p.ir, .int .i64 p.glo, .int .i64 p.ghi, .slice Ar nr cr, .slice Ad nd cd, .int .i64 p.wr] 96)).alloc (.cells #[.func (.yield l) #[] #[]] 154) = X := ⟨_, rfl⟩
  rw [hX]
  have BX : Below W.heap.size W X := (al2 hX).1
  have zX : X.heap.size = W.heap.size + 2 := (al2 hX).2
  have B2 : Hid (Blk X W.heap.size 96 #[.int .i64 p.ir, .int .i64 p.glo, .int .i64 p.ghi, .slice Ar nr cr, .slice Ad nd cd, .int .i64 p.wr]) := by rw [← hX]; exact (Blk.new W _ _).alloc _
  have B3 : Hid (Blk X (W.heap.size + 1) 154 #[.func (.yield l) #[] #[]]) := by
    rw [← hX]
    have := Blk.new (W.alloc (.cells #[.int .i64 p.ir, .int .i64 p.glo, .int .i64 p.ghi, .slice Ar nr cr, .slice Ad nd cd, .int .i64 p.wr] 96)) 154 #[.func (.yield l) #[] #[]]
    rw [World.size_alloc] at this
    exact this
  clear hX
  have en := enters_of Tryz.func112 (by kernel_rfl) rfl
  refine wpIn_rangeO (gf := 112) (fst := #[.agg #[.int .i64 p.ir, .int .i64 p.glo, .int .i64 p.ghi, .slice Ar nr cr, .slice Ad nd cd, .int .i64 p.wr]]) (lb := #[]) rfl en HIT.out (fun K O x args W h => by rw [h]; rfl)
    (fun K O k W1 => (∀ b, O b → K b) ∧ (∀ b, K b → b < W1.heap.size) ∧ (∃ K9 : Nat → Prop, (∀ b, KS W.heap.size (X.heap.size + 2) K b → K9 b) ∧ (∀ b, K9 b → W.heap.size ≤ b) ∧ J K9 (OS X.heap.size O) (pos k) W1) ∧ Blk W1 W.heap.size 96 #[.int .i64 p.ir, .int .i64 p.glo, .int .i64 p.ghi, .slice Ar nr cr, .slice Ad nd cd, .int .i64 p.wr] ∧ Blk W1 (W.heap.size + 1) 154 #[.func (.yield l) #[] #[]])
    (fun c W1 => c = .ret ∧ Jx W1) ?hI ?hIt ?hIx ?hmem ?h0 ?hround ?hdone ?hstop
  case hI =>
    rintro K O K' O' k W1 W2 hK ⟨hO, hKb, ⟨K9, h9, h9B, hJ⟩, k2, k3⟩ hst
    have hn : ∀ b, b < X.heap.size + 2 → ¬ O b := fun b hb e => by have := hK b (hO b e); omega
    have z1 := k3.lt
    refine ⟨hst.inO, fun b h => (hst.newK b h).elim (fun e => Nat.lt_of_lt_of_le (hKb b e) hst.size) (fun e => e.2), ⟨fun b => K9 b ∨ K' b, ?_, ?_, HS.out _ _ _ _ _ _ _ h9B hJ (hst.wide9 h9 (fun b h => h9 b (os_ks hO (by omega) rfl b h)) (by omega) rfl)⟩, hst.blk k2 (hn _ (by omega)), hst.blk k3 (hn _ (by omega))⟩
    · rintro b (h | h)
      · exact .inr h
      · exact .inl (h9 b (.inr h))
    · rintro b (h | h)
      · exact h9B b h
      · rcases hst.newK b h with h' | h'
        · exact h9B b (h9 b (.inl h'))
        · omega
  case hIt =>
    rintro K O k W1 W2 hK hs ⟨hO, hKb, ⟨K9, h9, h9B, hJ⟩, k2, k3⟩ ht
    exact ⟨hO, fun b h => Nat.lt_of_lt_of_le (hKb b h) ht.size, ⟨K9, h9, h9B, HS.out _ _ _ _ _ _ _ h9B hJ (ht.stp (.inr (.inl rfl)) (.inr (.inr rfl)) (fun b h => h9 b (os_ks hO (by omega) rfl b h)))⟩, ht.blk k2 (by omega), ht.blk k3 (by omega)⟩
  case hIx =>
    rintro c W1 W2 ⟨rfl, hx⟩ hb
    exact ⟨rfl, HX.out _ _ hx (hb.mono (by omega))⟩
  case hmem => exact fun K O k W1 ⟨_, _, ⟨K9, _, _, hJ⟩, _⟩ => HM.out _ _ _ _ hJ
  case h0 =>
    intro W1 hb hz
    refine ⟨fun b h => h, fun b h => h.elim, ⟨KS W.heap.size (X.heap.size + 2) (fun _ => False), fun b h => h, ks_ge (fun b h => h.elim) (by omega), ?_⟩, B2.out.below hb (by omega), B3.out.below hb (by omega)⟩
    rw [HP0]
    have hb1 : Below W.heap.size W W1 := BX.trans (hb.mono (by omega))
    refine HS.out _ _ _ _ 0 W W1 (fun b h => h.elim) H0.out ?_
    exact ⟨hb1.os, hb1.tape, hb1.output, hb1.size, fun b h => h.elim, fun b h => .inr (by rcases h with h | h; exact h.elim; exact ⟨h.1, by omega⟩), fun b h => .inr (by rcases h with h | h | h; exact h.elim; omega; omega), os_ks (fun b h => h) (by omega) rfl, fun j hj _ => hb1.block j hj⟩
  case hround =>
    rintro K O k u args W1 hK hO hs hx ⟨-, hKb, ⟨K9, h9, h9B, hJ⟩, k2, k3⟩ rfl
    have HXX := Lib.hid hx
    have hu := HWS.out u (List.mem_of_getElem? hx)
    have HU := Lib.hid hu
    have HJ := Lib.hid hJ
    have K2 := Lib.hid k2
    have K3 := Lib.hid k3
    have zl : W.heap.size + 1 < X.heap.size := by omega
    have hO9 : ∀ b, OS X.heap.size O b → K9 b := fun b h => h9 b (os_ks hO (by omega) rfl b h)
    clear hx hJ k2 k3 hu
    simp only [encW4]
    gi_wp2
    refine ⟨.of_below (by (repeat first | with_reducible assumption | with_reducible exact Below.refl _ _ | (with_reducible refine Below.alloc ?_ ?side _; case side => (first | omega | (with_reducible exact Below.size (by assumption)) | (simp; done) | (simp; omega))) | (with_reducible refine Below.setCell ?_ ?side _; case side => (first | omega | (with_reducible exact Below.size (by assumption)) | (simp; done) | (simp; omega))) | with_reducible refine Below.drew ?_ | with_reducible refine below_drewN ?_ _ | (with_reducible refine below_step (by assumption) ?side ?_; case side => (first | omega | (with_reducible exact Below.size (by assumption)) | (simp; done) | (simp; omega))))) (by omega), .of_below (by (repeat first | with_reducible assumption | with_reducible exact Below.refl _ _ | (with_reducible refine Below.alloc ?_ ?side _; case side => (first | omega | (with_reducible exact Below.size (by assumption)) | (simp; done) | (simp; omega))) | (with_reducible refine Below.setCell ?_ ?side _; case side => (first | omega | (with_reducible exact Below.size (by assumption)) | (simp; done) | (simp; omega))) | with_reducible refine Below.drew ?_ | with_reducible refine below_drewN ?_ _ | (with_reducible refine below_step (by assumption) ?side ?_; case side => (first | omega | (with_reducible exact Below.size (by assumption)) | (simp; done) | (simp; omega))))), fun W2 ht => ?_⟩
    have hbb : Below W1.heap.size W1 (W1.alloc (.cells #[.int .i64 u.w0, .int .i64 u.w1, .int .i64 u.w2, .int .i64 u.w3] 101)) := by (repeat first | with_reducible assumption | with_reducible exact Below.refl _ _ | (with_reducible refine Below.alloc ?_ ?side _; case side => (first | omega | (with_reducible exact Below.size (by assumption)) | (simp; done) | (simp; omega))) | (with_reducible refine Below.setCell ?_ ?side _; case side => (first | omega | (with_reducible exact Below.size (by assumption)) | (simp; done) | (simp; omega))) | with_reducible refine Below.drew ?_ | with_reducible refine below_drewN ?_ _ | (with_reducible refine below_step (by assumption) ?side ?_; case side => (first | omega | (with_reducible exact Below.size (by assumption)) | (simp; done) | (simp; omega))))
    have hzt := ht.size
    simp only [World.size_alloc] at hzt
    have HUB : Hid (Blk W2 W1.heap.size 101 #[.int .i64 u.w0, .int .i64 u.w1, .int .i64 u.w2, .int .i64 u.w3]) := Lib.hid (ht.blk (Blk.new W1 _ _) (by omega))
    obtain ⟨KA, hKA⟩ : ∃ KA : Nat → Prop, KA = fun b => K9 b ∨ (W1.heap.size ≤ b ∧ b < (W1.alloc (.cells #[.int .i64 u.w0, .int .i64 u.w1, .int .i64 u.w2, .int .i64 u.w3] 101)).heap.size) := ⟨_, rfl⟩
    have hA9 : ∀ b, K9 b → KA b := by rw [hKA]; exact fun b h => .inl h
    have hAu : KA W1.heap.size := by rw [hKA]; exact .inr ⟨Nat.le_refl _, by simp⟩
    have hAB : ∀ b, KA b → W.heap.size ≤ b := by rw [hKA]; rintro b (h | h); exact h9B b h; omega
    have HJA : Hid (J KA (OS X.heap.size O) (pos k) W2) := by
      refine Lib.hid (HS.out K9 _ KA _ _ W1 W2 h9B HJ.out ?_)
      refine (Stp.below_ro hbb hO9).trans ?_
      rw [← hKA]
      exact ht.stp (.inr (.inl rfl)) (.inr (.inr rfl)) (fun b h => hA9 b (hO9 b h))
    have K22 := Lib.hid (ht.blk (K2.out.below hbb K2.out.lt) (by omega))
    have K32 := Lib.hid (ht.blk (K3.out.below hbb K3.out.lt) (by omega))
    have HMA := Lib.hid (HM.out _ _ _ _ HJA.out)
    have c0 := K22.out.cell
    have l0 := K22.out.lt
    have cu := HUB.out.cell
    have lu := HUB.out.lt
    have hz2 : X.heap.size + 1 < W2.heap.size := by omega
    clear hKA ht hbb K2 K3 HJ
    gi_wp2
    refine ⟨trivial, CallsIn.inRound _ (callsIn_wide.2 ((HGR.out 2 u HU.out W2 HMA.out).mono ?_))⟩
    rintro e w3 ⟨A2, c2, hs2, rfl, hG2, hb3⟩
    have z3 := hb3.size
    have c03 := fun j => (hb3.cell (p := ⟨W.heap.size, j, none⟩) l0).trans (c0 j)
    have cu3 := fun j => (hb3.cell (p := ⟨W1.heap.size, j, none⟩) lu).trans (cu j)
    have l03 : W.heap.size < w3.heap.size := by omega
    have lu3 : W1.heap.size < w3.heap.size := by omega
    have HB3 := Lib.hid hb3
    have HG2 := Lib.hid hG2
    clear hb3 hG2 c0 cu
    gi_wp2
    refine ⟨trivial, CallsIn.inRound _ (callsIn_wide.2 ((HGR.out 1 u HU.out w3 (HMA.out.later HB3.out)).mono ?_))⟩
    rintro e w4 ⟨A1, c1, hs1, rfl, hG1, hb4⟩
    have z4 := hb4.size
    obtain ⟨KB, hKB⟩ : ∃ KB : Nat → Prop, KB = fun b => KA b ∨ (W2.heap.size ≤ b ∧ b < w4.heap.size) := ⟨_, rfl⟩
    have hBA : ∀ b, KA b → KB b := by rw [hKB]; exact fun b h => .inl h
    have hBn : ∀ b, W2.heap.size ≤ b → b < w4.heap.size → KB b := by rw [hKB]; exact fun b h1 h2 => .inr ⟨h1, h2⟩
    have hBB : ∀ b, KB b → W.heap.size ≤ b := by rw [hKB]; rintro b (h | h); exact hAB b h; omega
    have hb24 : Below W2.heap.size W2 w4 := HB3.out.trans (hb4.mono z3)
    have hO4 : ∀ b, OS X.heap.size O b → KB b := fun b h => hBA b (hA9 b (hO9 b h))
    have HJB : Hid (J KB (OS X.heap.size O) (pos k) w4) := by
      refine Lib.hid (HS.out KA _ KB _ _ W2 w4 hAB HJA.out ?_)
      rw [hKB]
      exact Stp.below_ro hb24 (fun b h => hA9 b (hO9 b h))
    have HO4 := Lib.hid hO4
    have HBn := Lib.hid hBn
    have HBB := Lib.hid hBB
    have HBA := Lib.hid hBA
    have k0B : KB W.heap.size := hBA _ (hA9 _ (h9 _ (.inr ⟨Nat.le_refl _, by omega⟩)))
    have k1B : KB (W.heap.size + 1) := hBA _ (hA9 _ (h9 _ (.inr ⟨by omega, by omega⟩)))
    have kXB : KB X.heap.size ∧ KB (X.heap.size + 1) := ⟨hBA _ (hA9 _ (h9 _ (.inr ⟨by omega, by omega⟩))), hBA _ (hA9 _ (h9 _ (.inr ⟨by omega, by omega⟩)))⟩
    have kuB : KB W1.heap.size := hBA _ hAu
    have HKKB := Lib.hid (fun b (h : K b) => hBA b (hA9 b (h9 b (.inl h))))
    have HG2 := Lib.hid (HG2.out.later hb4)
    have HG1 := Lib.hid hG1
    have K24 := Lib.hid (K22.out.below hb24 K22.out.lt)
    have K34 := Lib.hid (K32.out.below hb24 K32.out.lt)
    have HU4 := Lib.hid (HUB.out.below hb24 HUB.out.lt)
    have HB24 := Lib.hid hb24
    have HPU := Lib.hid (HP1.out k u HXX.out)
    have hn1 : (gr4 p 1 u).length ≤ 9 := by
      unfold gr4; rw [List.length_map]
      exact Nat.le_trans (List.length_filter_le _ _) (by rw [List.length_range]; omega)
    have hn2 : (gr4 p 2 u).length ≤ 9 := by
      unfold gr4; rw [List.length_map]
      exact Nat.le_trans (List.length_filter_le _ _) (by rw [List.length_range]; omega)
    have HGW := Lib.hid (fun wh (g : Nat × List Int) (h : g ∈ gr4 p wh u) => show g.1 ≤ 8 from by
      obtain ⟨⟨ln, -, hw⟩, -⟩ := mem_gr4.1 h
      have := wk4_le (p := p) (wh := wh) (u := u) (len := ln) (k := p.res.length)
      unfold wr4 at hw; omega)
    obtain ⟨g1s, hg1s⟩ : ∃ g, gr4 p 1 u = g := ⟨_, rfl⟩
    obtain ⟨g2s, hg2s⟩ : ∃ g, gr4 p 2 u = g := ⟨_, rfl⟩
    have HE1 := Lib.hid hg1s
    have HE2 := Lib.hid hg2s
    have HBL := Lib.hid (bu_len (p := p) (u := u))
    rw [hg1s] at HG1 hn1 HBL
    rw [hg2s] at HG2 hn2 HBL
    have HYG := Lib.hid (fun (i j : Nat) (g h : Nat × List Int) (hi : g1s[i]? = some g) (hj : g2s[j]? = some h) => show ys[pos k + (i * g2s.length + j)]? = some ⟨u, g, h⟩ from by
      rw [HYX.out, ← HPS.out k]
      refine flat_seg HXX.out ?_
      unfold bu4
      rw [hg1s, hg2s]
      exact bu_get hi hj)
    obtain ⟨n1, hn1'⟩ : ∃ n, g1s.length = n := ⟨_, rfl⟩
    obtain ⟨n2, hn2'⟩ : ∃ n, g2s.length = n := ⟨_, rfl⟩
    rw [hn1'] at HG1 hn1 HBL
    rw [hn2'] at HG2 hn2 HBL HYG
    have HN1 := Lib.hid hn1'
    have HN2 := Lib.hid hn2'
    rw [hg1s, hg2s, hn1', hn2']
    clear hKB hb4 hb24 hG1 hg1s hg2s hn1' hn2' hO4 hBn hBB HJA K22 K32 HUB HB3 c03 cu3 hBA
    gi_wp2
    gi_loopw [20] (fun i (wr : World) => ∃ (a : Nat) (KC : Nat → Prop), a ≤ n1 ∧ i = .int .i64 a ∧ Hid (∀ b, KB b → KC b) ∧ Hid (∀ b, KC b → W.heap.size ≤ b) ∧ Hid (J KC (OS X.heap.size O) (pos k + a * n2) wr) ∧ Hid (KpO KB w4 wr)) (fun i _ => n1 - (intOf i).toNat)
    case atStart => exact ⟨0, KB, by omega, by simp, Lib.hid (fun b h => h), HBB, by simpa using HJB, Lib.hid KpO.refl⟩
    case round =>
      obtain ⟨a, KC, ha, rfl, HBC, HCB, HJC, HKC⟩ := hrel
      obtain ⟨wa, rfl⟩ : ∃ wa : World, wa = wr := ⟨_, rfl⟩
      have za := HKC.out.1
      by_cases han : a < n1
      · have haB : decide ((a : Int) < n1) = true := by simp; omega
        have va : IntKind.i64.wrap ((a : Int) + 1) = (a : Int) + 1 := IntWalk.i64_in _ (by omega)
        obtain ⟨b1, o1, hA1, hb1, x0, x1, xr⟩ := (HG1.out.kp (fun b h1 h2 => HBn.out b (by omega) h2) HKC.out).get han
        subst hA1
        obtain ⟨g, hg⟩ : ∃ g, ggAt g1s a = g := ⟨_, rfl⟩
        obtain ⟨hd, hhd⟩ : ∃ h, (hgAt hs1 a).h = h := ⟨_, rfl⟩
        have HGI : Hid (g1s[a]? = some g) := Lib.hid (by rw [← hg]; unfold ggAt; rw [List.getD_eq_getElem?_getD, List.getElem?_eq_getElem (by have := HN1.out; omega)]; rfl)
        rw [hg] at x0 xr
        rw [hhd] at x1 xr
        have HGD := Lib.hid (And.intro hhd hg)
        have HXR := Lib.hid xr
        have l4a : W.heap.size + 1 < wa.heap.size := by omega
        clear xr hg hhd
        gi_wp2
        obtain ⟨wb, hwb⟩ : ∃ wb, wa.alloc (.cells #[.int .i64 g.1, .slice hd.A hd.n hd.c] 103) = wb := ⟨_, rfl⟩
        rw [hwb]
        have BWB : Below wa.heap.size wa wb := by rw [← hwb]; (repeat first | with_reducible assumption | with_reducible exact Below.refl _ _ | (with_reducible refine Below.alloc ?_ ?side _; case side => (first | omega | (with_reducible exact Below.size (by assumption)) | (simp; done) | (simp; omega))) | (with_reducible refine Below.setCell ?_ ?side _; case side => (first | omega | (with_reducible exact Below.size (by assumption)) | (simp; done) | (simp; omega))) | with_reducible refine Below.drew ?_ | with_reducible refine below_drewN ?_ _ | (with_reducible refine below_step (by assumption) ?side ?_; case side => (first | omega | (with_reducible exact Below.size (by assumption)) | (simp; done) | (simp; omega))))
        have zb : wb.heap.size = wa.heap.size + 1 := by rw [← hwb]; simp
        have HGB : Hid (Blk wb wa.heap.size 103 #[.int .i64 g.1, .slice hd.A hd.n hd.c]) := by rw [← hwb]; exact Lib.hid (Blk.new wa _ _)
        obtain ⟨KE, hKE⟩ : ∃ KE : Nat → Prop, KE = fun b => KC b ∨ (wa.heap.size ≤ b ∧ b < wb.heap.size) := ⟨_, rfl⟩
        have hCE : ∀ b, KC b → KE b := by rw [hKE]; exact fun b h => .inl h
        have hEg : KE wa.heap.size := by rw [hKE]; exact .inr ⟨Nat.le_refl _, by omega⟩
        have hEB : ∀ b, KE b → W.heap.size ≤ b := by rw [hKE]; rintro b (h | h); exact HCB.out b h; omega
        have HJE : Hid (J KE (OS X.heap.size O) (pos k + a * n2) wb) := by
          refine Lib.hid (HS.out KC _ KE _ _ wa wb HCB.out HJC.out ?_)
          rw [hKE]
          exact Stp.below_ro BWB (fun b h => HBC.out b (HO4.out b h))
        have HCE := Lib.hid hCE
        have HEB := Lib.hid hEB
        have HWB := Lib.hid BWB
        clear hwb BWB hKE hCE hEB HJC x0 x1
        gi_loopw [26] (fun i (wr : World) => ∃ (c : Nat) (KD : Nat → Prop), c ≤ n2 ∧ i = .int .i64 c ∧ Hid (∀ b, KE b → KD b) ∧ Hid (∀ b, KD b → W.heap.size ≤ b) ∧ Hid (J KD (OS X.heap.size O) (pos k + a * n2 + c) wr) ∧ Hid (KpO KE wb wr)) (fun i _ => n2 - (intOf i).toNat)
        case atStart => exact ⟨0, KE, by omega, by simp, Lib.hid (fun b h => h), HEB, HJE, Lib.hid KpO.refl⟩
        case round =>
          obtain ⟨c, KD, hc, rfl, HED, HDB, HJD, HKD⟩ := hrel
          have zd := HKD.out.1
          have HK4 := Lib.hid (HKC.out.chain HWB.out HKD.out (fun b h => HCE.out b (HBC.out b h)))
          by_cases hcn : c < n2
          · have hcB : decide ((c : Int) < n2) = true := by simp; omega
            have vc : IntKind.i64.wrap ((c : Int) + 1) = (c : Int) + 1 := IntWalk.i64_in _ (by omega)
            obtain ⟨b2, o2, hA2, hb2, y0, y1, yr⟩ := (HG2.out.kp (fun b h1 h2 => HBn.out b h1 h2) HK4.out).get hcn
            subst hA2
            obtain ⟨h, hh⟩ : ∃ h, ggAt g2s c = h := ⟨_, rfl⟩
            obtain ⟨he, hhe⟩ : ∃ h, (hgAt hs2 c).h = h := ⟨_, rfl⟩
            have HHI : Hid (g2s[c]? = some h) := Lib.hid (by rw [← hh]; unfold ggAt; rw [List.getD_eq_getElem?_getD, List.getElem?_eq_getElem (by have := HN2.out; omega)]; rfl)
            rw [hh] at y0 yr
            rw [hhe] at y1 yr
            have HHD := Lib.hid (And.intro hhe hh)
            have HYR := Lib.hid yr
            have e3 := HK4.out.blk K34.out k1B
            have eu := HK4.out.blk HU4.out kuB
            have eg := HKD.out.blk HGB.out hEg
            have q3 := e3.cell
            have m3 := e3.lt
            have qu := eu.cell
            have mu := eu.lt
            have qg := eg.cell
            have mg := eg.lt
            clear yr hh hhe e3 eu eg
            obtain ⟨wd, hwd⟩ : ∃ wd, wr.alloc (.cells #[.int .i64 h.1, .slice he.A he.n he.c] 103) = wd := ⟨_, rfl⟩
            have BWD : Below wr.heap.size wr wd := by rw [← hwd]; (repeat first | with_reducible assumption | with_reducible exact Below.refl _ _ | (with_reducible refine Below.alloc ?_ ?side _; case side => (first | omega | (with_reducible exact Below.size (by assumption)) | (simp; done) | (simp; omega))) | (with_reducible refine Below.setCell ?_ ?side _; case side => (first | omega | (with_reducible exact Below.size (by assumption)) | (simp; done) | (simp; omega))) | with_reducible refine Below.drew ?_ | with_reducible refine below_drewN ?_ _ | (with_reducible refine below_step (by assumption) ?side ?_; case side => (first | omega | (with_reducible exact Below.size (by assumption)) | (simp; done) | (simp; omega))))
            have zwd : wd.heap.size = wr.heap.size + 1 := by rw [← hwd]; simp
            obtain ⟨KF, hKF⟩ : ∃ KF : Nat → Prop, KF = fun b => KD b ∨ (wr.heap.size ≤ b ∧ b < wd.heap.size) := ⟨_, rfl⟩
            have hDF : ∀ b, KD b → KF b := by rw [hKF]; exact fun b h => .inl h
            have hFB : ∀ b, KF b → W.heap.size ≤ b := by rw [hKF]; rintro b (h | h); exact HDB.out b h; omega
            have hOD : ∀ b, OS X.heap.size O b → KD b := fun b h => HED.out b (HCE.out b (HBC.out b (HO4.out b h)))
            have HJF : Hid (J KF (OS X.heap.size O) (pos k + a * n2 + c) wd) := by
              refine Lib.hid (HS.out KD _ KF _ _ wr wd HDB.out HJD.out ?_)
              rw [hKF]
              exact Stp.below_ro BWD hOD
            have hKD4 : KpO KB w4 wd := HK4.out.then_below BWD
            have row : ∀ (hh : Hd) (ll : List Int), RowB W2.heap.size w4 hh ll → RowK KF (OS X.heap.size O) wd hh ll := fun hh ll r =>
              ⟨ints_same r.1 hKD4.1 fun a e => hKD4.2 _ (HBn.out _ (r.2 a e).1 (r.2 a e).2) (r.2 a e).2, fun a e => ⟨hDF _ (HED.out _ (HCE.out _ (HBC.out _ (HBn.out _ (r.2 a e).1 (r.2 a e).2)))), fun h => by
                have h2 := (r.2 a e).1
                rcases h with h | h | h
                · have := hKb _ (hO _ h); omega
                · omega
                · omega, Nat.lt_of_lt_of_le (r.2 a e).2 hKD4.1⟩⟩
            have rg : RowB W2.heap.size w4 hd g.2 := by
              have := (HG1.out.inn a han).2
              rw [HGD.out.1, HGD.out.2] at this
              exact ⟨this.1, fun a e => ⟨by have := (this.2 a e).1; omega, (this.2 a e).2⟩⟩
            have rh : RowB W2.heap.size w4 he h.2 := by
              have := (HG2.out.inn c hcn).2
              rw [HHD.out.1, HHD.out.2] at this
              exact this
            have hg8 := HGW.out 1 g (by rw [HE1.out]; exact List.mem_of_getElem? HGI.out)
            have hh8 := HGW.out 2 h (by rw [HE2.out]; exact List.mem_of_getElem? HHI.out)
            obtain ⟨fn, tmps, assign, body, hy, hR⟩ := HY.out KF (OS X.heap.size O) (pos k + a * n2 + c) ⟨u, g, h⟩ _ wd hFB (fun b h => hDF b (hOD b h)) (by rw [Nat.add_assoc]; exact HYG.out a c g h HGI.out HHI.out) HJF.out
              ⟨⟨u, g.1, hd, h.1, he⟩, rfl, rfl, rfl, rfl, row _ _ rg, row _ _ rh⟩
            simp only [encB4] at hy
            have HDF := Lib.hid hDF
            have HFB := Lib.hid hFB
            have HWD := Lib.hid BWD
            have HK4D := Lib.hid hKD4
            clear row rg rh hKF hDF hFB hOD BWD hKD4
            rw [← hwd] at hy
            have HWE := Lib.hid hwd
            clear hwd
            gi_wp2
            rw [HWE.out]
            refine roundIn_inRound _ ((hR _).mono ?_)
            have HBF := Lib.hid (fun b (h : KB b) => HDF.out b (HED.out b (HCE.out b (HBC.out b h))))
            rintro e w6 (⟨rfl, hJ6, hK6⟩ | ⟨rfl, hJ6, hK6⟩)
            · have HJ6 := Lib.hid hJ6
              have HK6 := Lib.hid (HKD.out.chain HWD.out hK6 (fun b h => HDF.out b (HED.out b h)))
              clear hJ6 hK6 hy hR
              gi_wp2
              go_roundw
              case rel => exact ⟨c + 1, KF, by omega, by go_num, Lib.hid (fun b h => HDF.out b (HED.out b h)), HFB, HJ6, HK6⟩
              case measure => simp [intOf]; omega
            · have HJ6 := Lib.hid hJ6
              have HK6 := Lib.hid (HK4D.out.step hK6 HBF.out)
              clear hJ6 hK6 hy hR
              gi_wp2
              exact ⟨KeepL.step HB24.out HK6.out kXB.1 kXB.2 hz2, (KpO.of_below HB24.out).step (HK6.out.mono HKKB.out) (fun b h => h), rfl, HJ6.out⟩
          · obtain rfl : c = n2 := by omega
            have hcB : decide ((c : Int) < c) = false := by simp
            gi_wp2
            go_roundw
            case rel => exact ⟨a + 1, KD, by omega, by go_num, Lib.hid (fun b h => HED.out b (HCE.out b (HBC.out b h))), HDB, by rw [Nat.succ_mul, ← Nat.add_assoc]; exact HJD, HK4⟩
            case measure => simp [intOf]; omega
      · obtain rfl : a = n1 := by omega
        have haB : decide ((a : Int) < a) = false := by simp
        gi_wp2
        refine ⟨KeepL.step HB24.out HKC.out kXB.1 kXB.2 hz2, (KpO.of_below HB24.out).step (HKC.out.mono HKKB.out) (fun b h => h), hO, fun b h => Nat.lt_of_lt_of_le (hKb b h) (by omega), ⟨KC, ?_, HCB.out, ?_⟩, HKC.out.blk K24.out k0B, HKC.out.blk K34.out k1B⟩
        · exact fun b h => HBC.out b (HBA.out b (hA9 b (h9 b h)))
        · rw [HPU.out, HBL.out]; exact HJC.out
  case hdone =>
    rintro K O W1 hK hs ⟨hO, -, ⟨K9, h9, h9B, hJ⟩, k2, k3⟩ hD
    have HJ := Lib.hid hJ
    have zl : W.heap.size + 1 < X.heap.size := by omega
    have ZX := Lib.hid zX
    clear hJ k2 k3 zX
    gi_wp2
    refine leave_turn (v := .tuple #[]) hD (fun W' ht => results_none rfl _ _ _) (fun W' ht => ⟨⟨_, rfl⟩, .inl ⟨K9, OS X.heap.size O, h9B, ?_⟩⟩)
    rw [← HPE.out]
    exact HS.out _ _ _ _ _ _ _ h9B HJ.out (ht.stp (.inr (.inl rfl)) (.inr (.inr rfl)) (fun b h => h9 b (os_ks hO (by omega) rfl b h)))
  case hstop =>
    rintro c W1 ⟨rfl, hx⟩ hD
    have zl : W.heap.size + 1 < X.heap.size := by omega
    clear zX
    gi_wp2
    refine leave_turn (v := .tuple #[]) hD (fun W' ht => results_none rfl _ _ _) (fun W' ht => ⟨⟨_, rfl⟩, .inr (HX.out _ _ hx ((ht.to_below (by have := (Array.getElem?_eq_some_iff.1 hD).1; omega)).mono (by omega)))⟩)

end Go.Proofs.YtcbeiadimchknaaGreat
