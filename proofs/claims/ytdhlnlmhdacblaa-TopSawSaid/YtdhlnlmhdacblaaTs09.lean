/- sawings of bars (layer 1): the iterator of all sawings. -/
import Derived.Handy
import Derived.Test.YtdhlnlmhdacblaaTs07
import Derived.Test.YtdhlnlmhdacblaaTs08
namespace Go.Proofs.Ytdhlnlmhdacblaa
open Go.RowKit
open Go.Sort (grow)
set_option linter.unusedVariables false
set_option linter.unusedSimpArgs false

set_option maxRecDepth 100000 in
set_option maxHeartbeats 800000 in
theorem sawings_c (Ab Ap : Option Addr) (nb cb np cp : Nat) (kf wrg most : Int) (w : World) :
    Calls Try.prog 88 #[.agg #[.slice Ab nb cb, .int .i64 kf, .slice Ap np cp, .int .i64 wrg], .int .i64 most] w fun e w' => ∃ b1 b2, e = .returned (.func (.func 103) #[] #[.pointer (some ⟨b1, 0, none⟩), .pointer (some ⟨b2, 0, none⟩)]) ∧
      w.heap.size ≤ b1 ∧ w.heap.size ≤ b2 ∧ Blk w' b1 25 #[.slice Ab nb cb, .int .i64 kf, .slice Ap np cp, .int .i64 wrg] ∧ Blk w' b2 3 #[.int .i64 most] ∧ Below w.heap.size w w' := by
  go_enter Try.func88, Try.ntmps88
  go_wp2
  go_ret
  refine ⟨_, _, rfl, ?_, ?_, ?_, ?_, by (repeat first | with_reducible assumption | with_reducible exact Below.refl _ _ | (with_reducible refine Below.alloc ?_ ?side _; case side => (first | omega | (with_reducible exact Below.size (by assumption)) | (simp; done) | (simp; omega))) | (with_reducible refine Below.setCell ?_ ?side _; case side => (first | omega | (with_reducible exact Below.size (by assumption)) | (simp; done) | (simp; omega))) | with_reducible refine Below.drew ?_ | with_reducible refine below_drewN ?_ _ | (with_reducible refine below_step (by assumption) ?side ?_; case side => (first | omega | (with_reducible exact Below.size (by assumption)) | (simp; done) | (simp; omega))))⟩
  · simp
  · simp
  · exact (Blk.new w _ _).alloc _
  · have := Blk.new (w.alloc (.cells #[.slice Ab nb cb, .int .i64 kf, .slice Ap np cp, .int .i64 wrg] 25)) 3 #[.int .i64 most]
    simpa using this
/-- what the iterator's memory is -/
structure SwMem (b1 b2 : Nat) (Ab Ap : Option Addr) (nb cb np cp : Nat) (kf wrg most : Int) (bs : List Br) (ms : List Pm) (ps : List Pc) (W : World) : Prop where
  k1 : Blk W b1 25 #[.slice Ab nb cb, .int .i64 kf, .slice Ap np cp, .int .i64 wrg]
  k2 : Blk W b2 3 #[.int .i64 most]
  st : StMem Ab Ap nb np bs ms ps W
theorem StMem.later {Ab Ap : Option Addr} {nb np : Nat} {bs : List Br} {ms : List Pm} {ps : List Pc} {W W' : World} (h : StMem Ab Ap nb np bs ms ps W) (hb : Below W.heap.size W W') : StMem Ab Ap nb np bs ms ps W' := ⟨h.1.later hb, h.2.later hb⟩
section
variable {b1 b2 : Nat} {Ab Ap : Option Addr} {nb cb np cp : Nat} {kf wrg most : Int} {bs : List Br} {ms : List Pm} {ps : List Pc} {W W' : World}
theorem SwMem.later (h : SwMem b1 b2 Ab Ap nb cb np cp kf wrg most bs ms ps W) (hb : Below W.heap.size W W') : SwMem b1 b2 Ab Ap nb cb np cp kf wrg most bs ms ps W' :=
  ⟨h.k1.below hb h.k1.lt, h.k2.below hb h.k2.lt, h.st.later hb⟩
end
def lgT (bs : List Br) (k : Nat) : List Int := (bs.take k).map (·.long)
theorem lgT_len {bs : List Br} {k : Nat} (h : k ≤ bs.length) : (lgT bs k).length = k := by simp [lgT]; omega
theorem lgT_succ {bs : List Br} {k : Nat} (h : k < bs.length) : lgT bs (k + 1) = lgT bs k ++ [(brAt bs k).long] := by
  unfold lgT brAt
  rw [List.take_add_one, List.map_append, List.getD_eq_getElem?_getD, List.getElem?_eq_getElem h]
  rfl
theorem lgT_all {bs : List Br} : lgT bs bs.length = bs.map (·.long) := by unfold lgT; rw [List.take_length]
theorem lgT_nb {bs : List Br} {nb : Nat} (h : bs.length = nb) : lgT bs nb = bs.map (·.long) := by rw [← h]; exact lgT_all
theorem iAt_map_long (bs : List Br) (k : Nat) (hk : k < bs.length) : iAt (bs.map (·.long)) k = (brAt bs k).long := by
  unfold iAt brAt
  rw [List.getD_eq_getElem?_getD, List.getD_eq_getElem?_getD, List.getElem?_map, List.getElem?_eq_getElem hk]
  rfl
theorem iAt_replicate (n k : Nat) : iAt (List.replicate n (0 : Int)) k = 0 := by
  unfold iAt
  rw [List.getD_eq_getElem?_getD, List.getElem?_replicate]
  split <;> rfl
theorem okSw0 {bs : List Br} {ps : List Pc} {kf : Int} {nb np : Nat} (ok : OkSt bs ps kf nb np) : OkSw nb (sw0 bs) := by
  refine ⟨fun k hk => ?_, fun k hk => ?_, by simp [sw0]⟩
  · have := ok.br k hk
    simp only [sw0]
    rw [iAt_map_long bs k (by rw [ok.bl]; exact hk)]
    omega
  · simp only [sw0]
    rw [iAt_replicate]
    simp
theorem own_below' {w w' : World} {B base base' : Nat} {e : TypeId} {size g : Nat} {n c : Nat} {xs : List Value} (h : w.ownsRow base e size (.slice (some ⟨g, 0, none⟩) n c) n xs) (hb : Below B w w') (hg : g < B) (hbb : base' ≤ base) : w'.ownsRow base' e size (.slice (some ⟨g, 0, none⟩) n c) n xs := by
  obtain ⟨h1, h2⟩ := h
  refine ⟨h1, ?_⟩
  rcases h2 with h2 | ⟨g', cap, cur, hv, hg', hh, r⟩
  · exact Or.inl h2
  · cases hv
    exact Or.inr ⟨g, c, cur, rfl, by omega, (hb.block g hg).trans hh, r⟩
theorem saw0_mem {bs : List Br} {ps : List Pc} {kf : Int} {nb np : Nat} {W W1 wr : World} {v : Value} (ok : OkSt bs ps kf nb np) (hk : Blk wr (W.heap.size + 1) 124 #[.slice none 0 0, v, .slice (some ⟨W.heap.size, 0, none⟩) nb nb, .int .i64 0])
    (ho : wr.ownsRow W1.heap.size 3 1 v nb ((bs.map (·.long)).flatMap encI)) (hc : wr.ownsRow W.heap.size 3 1 (.slice (some ⟨W.heap.size, 0, none⟩) nb nb) nb ((List.replicate nb (0 : Int)).flatMap encI)) (hz : W1.heap.size = W.heap.size + 1 + 1) :
    SawM W.heap.size (W.heap.size + 1) nb (sw0 bs) wr := by
  obtain ⟨A2, c2, rfl, -, i2⟩ := SlAt.of_own (d := (0 : Int)) encI_len ho (by simp [ok.bl])
  obtain ⟨_, _, e3, -, i3⟩ := SlAt.of_own (d := (0 : Int)) encI_len hc (by simp)
  cases e3
  refine ⟨by simp [sw0, ok.bl], by simp [sw0, ok.bl], none, 0, A2, c2, _, nb, hk, by simp [sw0], fun _ => rfl, ⟨⟨rfl, fun h => absurd h (by simp [sw0])⟩, fun a e => by cases e⟩, ⟨ints_iff.2 i2, fun a e => ?_⟩, by rw [show (sw0 bs).cuts = List.replicate nb 0 by simp [sw0, ok.bl]]; exact ints_iff.2 i3, fun a e => ?_⟩
  · have := own_addr ho a e
    omega
  · have := own_addr hc a e
    cases e
    simp only at this ⊢
    omega
set_option maxRecDepth 100000 in
set_option maxHeartbeats 3200000 in
theorem sawings1_c (b1 b2 : Nat) (Ab Ap : Option Addr) (nb cb np cp : Nat) (kf wrg most : Int) (bs : List Br) (ms : List Pm) (ps : List Pc) (ok : OkSt bs ps kf nb np) (hmost : 0 ≤ most ∧ most ≤ 8) :
    IterS Try.prog 103 #[] #[.pointer (some ⟨b1, 0, none⟩), .pointer (some ⟨b2, 0, none⟩)] (SwMem b1 b2 Ab Ap nb cb np cp kf wrg most bs ms ps) (swA bs ps kf most) (fun B b x W => SawM B b nb x W) := by
  intro l J Jx W hmem hbut hyld h0 hM
  have HE : Hid (SawEnv Try.prog W.heap.size l nb (StMem Ab Ap nb np bs ms ps) (swA bs ps kf most) J Jx) := ⟨fun b k W1 hb h => (hmem b k W1 hb h).st, hbut, hyld⟩
  have H0 := Lib.hid h0
  have HM := Lib.hid hM
  have HMM := Lib.hid hmem
  have HBB := Lib.hid hbut
  have d0 := hM.k1.cell
  have d2 := hM.k2.cell
  have n1 := hM.k1.lt
  have n2 := hM.k2.lt
  have hnb := ok.hb
  have hbl := ok.bl
  have OK := Lib.hid ok
  clear hmem hbut hyld h0 hM ok
  go_enter Try.func103, Try.ntmps103
  have hmk := fun W => mk_ints W nb (by omega)
  go_wp2_with fail
  clear hmk
  obtain ⟨W1, hW1⟩ : ∃ W1, (W.alloc (.cells (mkC nb) 3)).alloc (.cells #[.slice none 0 0, .slice none 0 0, .slice (some ⟨W.heap.size, 0, none⟩) nb nb, .int .i64 0] 124) = W1 := ⟨_, rfl⟩
  rw [hW1]
  have hz1 : W1.heap.size = W.heap.size + 1 + 1 := by rw [← hW1]; simp
  have hB1 : Below W.heap.size W W1 := by rw [← hW1]; exact ((Below.refl _ _).alloc (Nat.le_refl _) _).alloc (by simp) _
  have HC1 := Lib.hid (by rw [← hW1]; exact own_below (mk_own W nb (by omega)) ((Below.refl _ _).alloc (by simp) _) : W1.ownsRow W.heap.size 3 1 (.slice (some ⟨W.heap.size, 0, none⟩) nb nb) nb ((List.replicate nb (0 : Int)).flatMap encI))
  have HK1 := Lib.hid (by rw [← hW1]; have := Blk.new (W.alloc (.cells (mkC nb) 3)) 124 #[.slice none 0 0, .slice none 0 0, .slice (some ⟨W.heap.size, 0, none⟩) nb nb, .int .i64 0]; simpa using this : Blk W1 (W.heap.size + 1) 124 #[.slice none 0 0, .slice none 0 0, .slice (some ⟨W.heap.size, 0, none⟩) nb nb, .int .i64 0])
  clear hW1
  have own0 := Lib.hid (World.ownsRow_nil W1 W1.heap.size 3 1)
  go_loopw [16] (fun i (wr : World) => ∃ (k : Nat) (v : Value), k ≤ nb ∧ i = .int .i64 k ∧ Hid (Blk wr (W.heap.size + 1) 124 #[.slice none 0 0, v, .slice (some ⟨W.heap.size, 0, none⟩) nb nb, .int .i64 0]) ∧ Hid (wr.ownsRow W1.heap.size 3 1 v k ((lgT bs k).flatMap encI)) ∧ Below (W.heap.size + 1) W1 wr) (fun i _ => nb - (intOf i).toNat)
  case atStart => exact ⟨0, _, by omega, rfl, HK1, own0, Below.refl _ _⟩
  case round =>
    obtain ⟨k, v, hk, rfl, HKr, HOr, hb⟩ := hrel
    have zb := hb.size
    have hbW : Below W.heap.size W wr := hB1.trans (hb.mono (by omega))
    by_cases hlt : k < nb
    · have hqB : decide ((k : Int) < nb) = true := by simp; omega
      have hst := HM.out.st.later hbW
      obtain ⟨bp, op, e, hbp, x0, x1⟩ := hst.1.get hlt
      obtain ⟨bp', op', e', hbp', -, -⟩ := HM.out.st.1.get hlt
      subst e
      cases e'
      have HL := Lib.hid (lgT_succ (bs := bs) (k := k) (by rw [OK.out.bl]; exact hlt))
      have hlen := lgT_len (bs := bs) (k := k) (by rw [OK.out.bl]; exact hk)
      obtain ⟨lo, hlo⟩ : ∃ x, (brAt bs k).long = x := ⟨_, rfl⟩
      rw [hlo] at x1 HL
      have c1 := HKr.out.cell
      have f1 := HKr.out.frozen
      have dd := fun j => (hbW.cell (p := ⟨b1, j, none⟩) n1).trans (d0 j)
      clear hst hlo
      go_upto_region 4 with (fail)
      go_name_world Wa hWa
      have BWa : Below wr.heap.size wr Wa := (al1 hWa).1
      have zWa := (al1 hWa).2
      have ba := (al1_0 hWa).2.1 1
      have KWa := Lib.hid (HKr.out.below BWa (by omega))
      have OWa := Lib.hid (own_below HOr.out BWa)
      have ca := KWa.out.cell
      have fa := KWa.out.frozen
      have hva : ∀ g, v.ownBlock = some g → g < wr.heap.size := fun g hg => (HOr.out.lt g hg).2
      have HVA := Lib.hid hva
      have lt9 : W.heap.size + 1 < Wa.heap.size := by omega
      have lt8 : wr.heap.size < Wa.heap.size := by omega
      have lt7 : W.heap.size + 1 < W1.heap.size := by omega
      have lt6 : W1.heap.size ≤ Wa.heap.size := by omega
      replace zWa := Lib.hid zWa
      have Hz1 := Lib.hid hz1
      clear hz1
      clear hWa c1 f1 x0 x1 dd hva
      go_region_law ((refine step_append_T _ (d := (0 : Int)) rfl (.tmp 24) (.tmp 27) _ rfl W1.heap.size _ 1 8 intE encI_len encI_one v v.ownBlock k (lgT bs k) rfl rfl ?_ _ 1 _ [lo] rfl ?_ ?_ ?_ ?_; (exact own_below OWa.out (by (repeat first | with_reducible assumption | with_reducible exact Below.refl _ _ | (with_reducible refine Below.alloc ?_ ?side _; case side => (first | omega | (with_reducible exact Below.size (by assumption)) | (simp; done) | (simp; omega))) | (with_reducible refine Below.setCell ?_ ?side _; case side => (first | omega | (with_reducible exact Below.size (by assumption)) | (simp; done) | (simp; omega))) | with_reducible refine Below.drew ?_ | with_reducible refine below_drewN ?_ _ | (with_reducible refine below_step (by assumption) ?side ?_; case side => (first | omega | (with_reducible exact Below.size (by assumption)) | (simp; done) | (simp; omega)))))); (exact sl_new encI_len (by first | rfl | simp) rfl rfl); omega; go_size; (intro v' w2 hown2 hg2 hat2; (obtain ⟨g9, d9, rfl, hg9, hg9'⟩ := hown2.form (by omega)); have kb : Below W1.heap.size Wa w2 := Below.grown (by (repeat first | with_reducible assumption | with_reducible exact Below.refl _ _ | (with_reducible refine Below.alloc ?_ ?side _; case side => (first | omega | (with_reducible exact Below.size (by assumption)) | (simp; done) | (simp; omega))) | (with_reducible refine Below.setCell ?_ ?side _; case side => (first | omega | (with_reducible exact Below.size (by assumption)) | (simp; done) | (simp; omega))) | with_reducible refine Below.drew ?_ | with_reducible refine below_drewN ?_ _ | (with_reducible refine below_step (by assumption) ?side ?_; case side => (first | omega | (with_reducible exact Below.size (by assumption)) | (simp; done) | (simp; omega))))) hg2 (by go_size) (own_ge OWa.out); (have c9 := (kb.cell (p := ⟨W.heap.size + 1, 1, none⟩) (by show W.heap.size + 1 < _; omega)).trans (ca 1)); (have f9 := (kb.frozen (p := ⟨W.heap.size + 1, 1, none⟩) (by show W.heap.size + 1 < _; omega)).trans (fa 1)))))
      all_goals
        have hbb : Below (W.heap.size + 1) W1 w2 := (hb.trans (BWa.mono (by omega))).trans (kb.mono (by omega))
        have HOW := Lib.hid hown2
        have zz2 := hbb.size
        clear hg2 hat2 hown2
        go_wp2
        go_roundw
        case rel =>
          have hz1 := Hz1.out
          have hzWa := zWa.out
          refine ⟨k + 1, .slice (some ⟨g9, 0, none⟩) (k + 1) d9, by omega, by go_num, Lib.hid ?_, Lib.hid ?_, ?_⟩
          · have := (KWa.out.below kb (by omega)).set_ 1 (.slice (some ⟨g9, 0, none⟩) (k + 1) d9)
            simpa using this
          · rw [HL.out]
            exact own_set HOW.out (fun g hg => by cases hg; show g9 ≠ W.heap.size + 1; omega)
          · exact hbb.setCell (Nat.le_refl _) _
        case measure => simp [intOf]; omega
    · obtain rfl : nb = k := by omega
      have hqB : decide (((nb : Nat) : Int) < nb) = false := by simp
      have dd := fun j => (hbW.cell (p := ⟨b1, j, none⟩) n1).trans (d0 j)
      have dd2 := fun j => (hbW.cell (p := ⟨b2, j, none⟩) n2).trans (d2 j)
      have HDN := Lib.hid (And.intro dd dd2)
      go_wp2_with fail
      refine (saw_c Ab Ap nb cb np cp l W.heap.size kf wrg most bs ms ps (swA bs ps kf most) J Jx HE.out OK.out hmost np (sw0 bs) (W.heap.size + 1) 0 wr (by omega) (by simp [sw0]) (okSw0 OK.out) (H0.out _ _ (by omega) hbW) ?saw (fun i x h => by unfold swA; rw [OK.out.bl, OK.out.pl, Nat.zero_add]; exact h)).mono ?_
      case saw => exact saw0_mem OK.out HKr.out (by rw [lgT_nb OK.out.bl] at HOr; exact HOr.out) (own_below' HC1.out hb (by omega) (Nat.le_refl _)) hz1
      have e0 : (swA bs ps kf most).length = 0 + (swL bs ps kf most nb np (sw0 bs)).length := by unfold swA; rw [OK.out.bl, OK.out.pl, Nat.zero_add]
      rintro e w' (⟨rfl, hJ, hK⟩ | ⟨rfl, hJ⟩)
      · have HJ := Lib.hid hJ
        clear hJ hK
        go_wp2
        go_end0
        exact ⟨⟨_, rfl⟩, .inl ⟨_, Nat.le_succ _, by rw [e0]; exact HJ.out⟩⟩
      · have HJ := Lib.hid hJ
        clear hJ
        go_wp2
        go_end0
        exact ⟨⟨_, rfl⟩, .inr HJ.out⟩

end Go.Proofs.Ytdhlnlmhdacblaa
