/- sawings of bars (layer 1): the iterator of all sawings; truths of bars (layer 1): what yields all truths, or an error. -/
import Derived.Handy
import Derived.Test.YtdhlnlmhdacblaaTs08
import Derived.Test.YtdhlnlmhdacblaaTs09
import Derived.RangeFuncNested
import Derived.RangeFuncCalls
namespace Go.Proofs.Ytdhlnlmhdacblaa
open Go.RowKit
open Go.Sort (grow)
set_option linter.unusedVariables false
set_option linter.unusedSimpArgs false

set_option maxRecDepth 100000 in
set_option maxHeartbeats 800000 in
theorem sawings_c (Ab Ap : Option Addr) (nb cb np cp : Nat) (kf wrg most : Int) (w : World) :
    Calls Try.prog 88 #[.agg #[.slice Ab nb cb, .int .i64 kf, .slice Ap np cp, .int .i64 wrg], .int .i64 most] w fun e w' => ∃ b1 b2, e = .returned (.func (.func 103) #[] #[.pointer (some ⟨b1, 0, none⟩), .pointer (some ⟨b2, 0, none⟩)]) ∧
      w.heap.size ≤ b1 ∧ w.heap.size ≤ b2 ∧ Blk w' b1 25 #[.slice Ab nb cb, .int .i64 kf, .slice Ap np cp, .int .i64 wrg] ∧ Blk w' b2 3 #[.int .i64 most] ∧ Below w.heap.size w w' := by
  go_enter Try.func88, Try.ntmps88
  go_wp2
  go_ret
  refine ⟨_, _, rfl, ?_, ?_, ?_, ?_, by (repeat first | with_reducible assumption | with_reducible exact Below.refl _ _ | (with_reducible refine Below.alloc ?_ ?side _; case side => (first | omega | (with_reducible exact Below.size (by assumption)) | (simp; done) | (simp; omega))) | (with_reducible refine Below.setCell ?_ ?side _; case side => (first | omega | (with_reducible exact Below.size (by assumption)) | (simp; done) | (simp; omega))) | with_reducible refine Below.drew ?_ | with_reducible refine below_drewN ?_ _ | (with_reducible refine below_step (by assumption) ?side ?_; case side => (first | omega | (with_reducible exact Below.size (by assumption)) | (simp; done) | (simp; omega))))⟩
  · simp
  · simp
  · exact (Blk.new w _ _).alloc _
  · have := Blk.new (w.alloc (.cells #[.slice Ab nb cb, .int .i64 kf, .slice Ap np cp, .int .i64 wrg] 25)) 3 #[.int .i64 most]
    simpa using this
/-- what the iterator's memory is -/
structure SwMem (b1 b2 : Nat) (Ab Ap : Option Addr) (nb cb np cp : Nat) (kf wrg most : Int) (bs : List Br) (ms : List Pm) (ps : List Pc) (W : World) : Prop where
  k1 : Blk W b1 25 #[.slice Ab nb cb, .int .i64 kf, .slice Ap np cp, .int .i64 wrg]
  k2 : Blk W b2 3 #[.int .i64 most]
  st : StMem Ab Ap nb np bs ms ps W
theorem StMem.later {Ab Ap : Option Addr} {nb np : Nat} {bs : List Br} {ms : List Pm} {ps : List Pc} {W W' : World} (h : StMem Ab Ap nb np bs ms ps W) (hb : Below W.heap.size W W') : StMem Ab Ap nb np bs ms ps W' := ⟨h.1.later hb, h.2.later hb⟩
section
variable {b1 b2 : Nat} {Ab Ap : Option Addr} {nb cb np cp : Nat} {kf wrg most : Int} {bs : List Br} {ms : List Pm} {ps : List Pc} {W W' : World}
theorem SwMem.later (h : SwMem b1 b2 Ab Ap nb cb np cp kf wrg most bs ms ps W) (hb : Below W.heap.size W W') : SwMem b1 b2 Ab Ap nb cb np cp kf wrg most bs ms ps W' :=
  ⟨h.k1.below hb h.k1.lt, h.k2.below hb h.k2.lt, h.st.later hb⟩
end
def lgT (bs : List Br) (k : Nat) : List Int := (bs.take k).map (·.long)
theorem lgT_len {bs : List Br} {k : Nat} (h : k ≤ bs.length) : (lgT bs k).length = k := by simp [lgT]; omega
theorem lgT_succ {bs : List Br} {k : Nat} (h : k < bs.length) : lgT bs (k + 1) = lgT bs k ++ [(brAt bs k).long] := by
  unfold lgT brAt
  rw [List.take_add_one, List.map_append, List.getD_eq_getElem?_getD, List.getElem?_eq_getElem h]
  rfl
theorem lgT_all {bs : List Br} : lgT bs bs.length = bs.map (·.long) := by unfold lgT; rw [List.take_length]
theorem lgT_nb {bs : List Br} {nb : Nat} (h : bs.length = nb) : lgT bs nb = bs.map (·.long) := by rw [← h]; exact lgT_all
theorem iAt_map_long (bs : List Br) (k : Nat) (hk : k < bs.length) : iAt (bs.map (·.long)) k = (brAt bs k).long := by
  unfold iAt brAt
  rw [List.getD_eq_getElem?_getD, List.getD_eq_getElem?_getD, List.getElem?_map, List.getElem?_eq_getElem hk]
  rfl
theorem iAt_replicate (n k : Nat) : iAt (List.replicate n (0 : Int)) k = 0 := by
  unfold iAt
  rw [List.getD_eq_getElem?_getD, List.getElem?_replicate]
  split <;> rfl
theorem okSw0 {bs : List Br} {ps : List Pc} {kf : Int} {nb np : Nat} (ok : OkSt bs ps kf nb np) : OkSw nb (sw0 bs) := by
  refine ⟨fun k hk => ?_, fun k hk => ?_, by simp [sw0]⟩
  · have := ok.br k hk
    simp only [sw0]
    rw [iAt_map_long bs k (by rw [ok.bl]; exact hk)]
    omega
  · simp only [sw0]
    rw [iAt_replicate]
    simp
theorem own_below' {w w' : World} {B base base' : Nat} {e : TypeId} {size g : Nat} {n c : Nat} {xs : List Value} (h : w.ownsRow base e size (.slice (some ⟨g, 0, none⟩) n c) n xs) (hb : Below B w w') (hg : g < B) (hbb : base' ≤ base) : w'.ownsRow base' e size (.slice (some ⟨g, 0, none⟩) n c) n xs := by
  obtain ⟨h1, h2⟩ := h
  refine ⟨h1, ?_⟩
  rcases h2 with h2 | ⟨g', cap, cur, hv, hg', hh, r⟩
  · exact Or.inl h2
  · cases hv
    exact Or.inr ⟨g, c, cur, rfl, by omega, (hb.block g hg).trans hh, r⟩
theorem saw0_mem {bs : List Br} {ps : List Pc} {kf : Int} {nb np : Nat} {W W1 wr : World} {v : Value} (ok : OkSt bs ps kf nb np) (hk : Blk wr (W.heap.size + 1) 124 #[.slice none 0 0, v, .slice (some ⟨W.heap.size, 0, none⟩) nb nb, .int .i64 0])
    (ho : wr.ownsRow W1.heap.size 3 1 v nb ((bs.map (·.long)).flatMap encI)) (hc : wr.ownsRow W.heap.size 3 1 (.slice (some ⟨W.heap.size, 0, none⟩) nb nb) nb ((List.replicate nb (0 : Int)).flatMap encI)) (hz : W1.heap.size = W.heap.size + 1 + 1) :
    SawM W.heap.size (W.heap.size + 1) nb (sw0 bs) wr := by
  obtain ⟨A2, c2, rfl, -, i2⟩ := SlAt.of_own (d := (0 : Int)) encI_len ho (by simp [ok.bl])
  obtain ⟨_, _, e3, -, i3⟩ := SlAt.of_own (d := (0 : Int)) encI_len hc (by simp)
  cases e3
  refine ⟨by simp [sw0, ok.bl], by simp [sw0, ok.bl], none, 0, A2, c2, _, nb, hk, by simp [sw0], fun _ => rfl, ⟨⟨rfl, fun h => absurd h (by simp [sw0])⟩, fun a e => by cases e⟩, ⟨ints_iff.2 i2, fun a e => ?_⟩, by rw [show (sw0 bs).cuts = List.replicate nb 0 by simp [sw0, ok.bl]]; exact ints_iff.2 i3, fun a e => ?_⟩
  · have := own_addr ho a e
    omega
  · have := own_addr hc a e
    cases e
    simp only at this ⊢
    omega
set_option maxRecDepth 100000 in
set_option maxHeartbeats 3200000 in
theorem sawings1_c (b1 b2 : Nat) (Ab Ap : Option Addr) (nb cb np cp : Nat) (kf wrg most : Int) (bs : List Br) (ms : List Pm) (ps : List Pc) (ok : OkSt bs ps kf nb np) (hmost : 0 ≤ most ∧ most ≤ 8) :
    IterS Try.prog 103 #[] #[.pointer (some ⟨b1, 0, none⟩), .pointer (some ⟨b2, 0, none⟩)] (SwMem b1 b2 Ab Ap nb cb np cp kf wrg most bs ms ps) (swA bs ps kf most) (fun B b x W => SawM B b nb x W) := by
  intro l J Jx W hmem hbut hyld h0 hM
  have HE : Hid (SawEnv Try.prog W.heap.size l nb (StMem Ab Ap nb np bs ms ps) (swA bs ps kf most) J Jx) := ⟨fun b k W1 hb h => (hmem b k W1 hb h).st, hbut, hyld⟩
  have H0 := Lib.hid h0
  have HM := Lib.hid hM
  have HMM := Lib.hid hmem
  have HBB := Lib.hid hbut
  have d0 := hM.k1.cell
  have d2 := hM.k2.cell
  have n1 := hM.k1.lt
  have n2 := hM.k2.lt
  have hnb := ok.hb
  have hbl := ok.bl
  have OK := Lib.hid ok
  clear hmem hbut hyld h0 hM ok
  go_enter Try.func103, Try.ntmps103
  have hmk := fun W => mk_ints W nb (by omega)
  go_wp2_with fail
  clear hmk
  obtain ⟨W1, hW1⟩ : ∃ W1, (W.alloc (.cells (mkC nb) 3)).alloc (.cells #[.slice none 0 0, .slice none 0 0, .slice (some ⟨W.heap.size, 0, none⟩) nb nb, .int .i64 0] 124) = W1 := ⟨_, rfl⟩
  rw [hW1]
  have hz1 : W1.heap.size = W.heap.size + 1 + 1 := by rw [← hW1]; simp
  have hB1 : Below W.heap.size W W1 := by rw [← hW1]; exact ((Below.refl _ _).alloc (Nat.le_refl _) _).alloc (by simp) _
  have HC1 := Lib.hid (by rw [← hW1]; exact own_below (mk_own W nb (by omega)) ((Below.refl _ _).alloc (by simp) _) : W1.ownsRow W.heap.size 3 1 (.slice (some ⟨W.heap.size, 0, none⟩) nb nb) nb ((List.replicate nb (0 : Int)).flatMap encI))
  have HK1 := Lib.hid (by rw [← hW1]; have := Blk.new (W.alloc (.cells (mkC nb) 3)) 124 #[.slice none 0 0, .slice none 0 0, .slice (some ⟨W.heap.size, 0, none⟩) nb nb, .int .i64 0]; simpa using this : Blk W1 (W.heap.size + 1) 124 #[.slice none 0 0, .slice none 0 0, .slice (some ⟨W.heap.size, 0, none⟩) nb nb, .int .i64 0])
  clear hW1
  have own0 := Lib.hid (World.ownsRow_nil W1 W1.heap.size 3 1)
  go_loopw [16] (fun i (wr : World) => ∃ (k : Nat) (v : Value), k ≤ nb ∧ i = .int .i64 k ∧ Hid (Blk wr (W.heap.size + 1) 124 #[.slice none 0 0, v, .slice (some ⟨W.heap.size, 0, none⟩) nb nb, .int .i64 0]) ∧ Hid (wr.ownsRow W1.heap.size 3 1 v k ((lgT bs k).flatMap encI)) ∧ Below (W.heap.size + 1) W1 wr) (fun i _ => nb - (intOf i).toNat)
  case atStart => exact ⟨0, _, by omega, rfl, HK1, own0, Below.refl _ _⟩
  case round =>
    obtain ⟨k, v, hk, rfl, HKr, HOr, hb⟩ := hrel
    have zb := hb.size
    have hbW : Below W.heap.size W wr := hB1.trans (hb.mono (by omega))
    by_cases hlt : k < nb
    · have hqB : decide ((k : Int) < nb) = true := by simp; omega
      have hst := HM.out.st.later hbW
      obtain ⟨bp, op, e, hbp, x0, x1⟩ := hst.1.get hlt
      obtain ⟨bp', op', e', hbp', -, -⟩ := HM.out.st.1.get hlt
      subst e
      cases e'
      have HL := Lib.hid (lgT_succ (bs := bs) (k := k) (by rw [OK.out.bl]; exact hlt))
      have hlen := lgT_len (bs := bs) (k := k) (by rw [OK.out.bl]; exact hk)
      obtain ⟨lo, hlo⟩ : ∃ x, (brAt bs k).long = x := ⟨_, rfl⟩
      rw [hlo] at x1 HL
      have c1 := HKr.out.cell
      have f1 := HKr.out.frozen
      have dd := fun j => (hbW.cell (p := ⟨b1, j, none⟩) n1).trans (d0 j)
      clear hst hlo
      go_upto_region 4 with (fail)
      go_name_world Wa hWa
      have BWa : Below wr.heap.size wr Wa := (al1 hWa).1
      have zWa := (al1 hWa).2
      have ba := (al1_0 hWa).2.1 1
      have KWa := Lib.hid (HKr.out.below BWa (by omega))
      have OWa := Lib.hid (own_below HOr.out BWa)
      have ca := KWa.out.cell
      have fa := KWa.out.frozen
      have hva : ∀ g, v.ownBlock = some g → g < wr.heap.size := fun g hg => (HOr.out.lt g hg).2
      have HVA := Lib.hid hva
      have lt9 : W.heap.size + 1 < Wa.heap.size := by omega
      have lt8 : wr.heap.size < Wa.heap.size := by omega
      have lt7 : W.heap.size + 1 < W1.heap.size := by omega
      have lt6 : W1.heap.size ≤ Wa.heap.size := by omega
      replace zWa := Lib.hid zWa
      have Hz1 := Lib.hid hz1
      clear hz1
      clear hWa c1 f1 x0 x1 dd hva
      go_region_law ((refine step_append_T _ (d := (0 : Int)) rfl (.tmp 24) (.tmp 27) _ rfl W1.heap.size _ 1 8 intE encI_len encI_one v v.ownBlock k (lgT bs k) rfl rfl ?_ _ 1 _ [lo] rfl ?_ ?_ ?_ ?_; (exact own_below OWa.out (by (repeat first | with_reducible assumption | with_reducible exact Below.refl _ _ | (with_reducible refine Below.alloc ?_ ?side _; case side => (first | omega | (with_reducible exact Below.size (by assumption)) | (simp; done) | (simp; omega))) | (with_reducible refine Below.setCell ?_ ?side _; case side => (first | omega | (with_reducible exact Below.size (by assumption)) | (simp; done) | (simp; omega))) | with_reducible refine Below.drew ?_ | with_reducible refine below_drewN ?_ _ | (with_reducible refine below_step (by assumption) ?side ?_; case side => (first | omega | (with_reducible exact Below.size (by assumption)) | (simp; done) | (simp; omega)))))); (exact sl_new encI_len (by first | rfl | simp) rfl rfl); omega; go_size; (intro v' w2 hown2 hg2 hat2; (obtain ⟨g9, d9, rfl, hg9, hg9'⟩ := hown2.form (by omega)); have kb : Below W1.heap.size Wa w2 := Below.grown (by (repeat first | with_reducible assumption | with_reducible exact Below.refl _ _ | (with_reducible refine Below.alloc ?_ ?side _; case side => (first | omega | (with_reducible exact Below.size (by assumption)) | (simp; done) | (simp; omega))) | (with_reducible refine Below.setCell ?_ ?side _; case side => (first | omega | (with_reducible exact Below.size (by assumption)) | (simp; done) | (simp; omega))) | with_reducible refine Below.drew ?_ | with_reducible refine below_drewN ?_ _ | (with_reducible refine below_step (by assumption) ?side ?_; case side => (first | omega | (with_reducible exact Below.size (by assumption)) | (simp; done) | (simp; omega))))) hg2 (by go_size) (own_ge OWa.out); (have c9 := (kb.cell (p := ⟨W.heap.size + 1, 1, none⟩) (by show W.heap.size + 1 < _; omega)).trans (ca 1)); (have f9 := (kb.frozen (p := ⟨W.heap.size + 1, 1, none⟩) (by show W.heap.size + 1 < _; omega)).trans (fa 1)))))
      all_goals
        have hbb : Below (W.heap.size + 1) W1 w2 := (hb.trans (BWa.mono (by omega))).trans (kb.mono (by omega))
        have HOW := Lib.hid hown2
        have zz2 := hbb.size
        clear hg2 hat2 hown2
        go_wp2
        go_roundw
        case rel =>
          have hz1 := Hz1.out
          have hzWa := zWa.out
          refine ⟨k + 1, .slice (some ⟨g9, 0, none⟩) (k + 1) d9, by omega, by go_num, Lib.hid ?_, Lib.hid ?_, ?_⟩
          · have := (KWa.out.below kb (by omega)).set_ 1 (.slice (some ⟨g9, 0, none⟩) (k + 1) d9)
            simpa using this
          · rw [HL.out]
            exact own_set HOW.out (fun g hg => by cases hg; show g9 ≠ W.heap.size + 1; omega)
          · exact hbb.setCell (Nat.le_refl _) _
        case measure => simp [intOf]; omega
    · obtain rfl : nb = k := by omega
      have hqB : decide (((nb : Nat) : Int) < nb) = false := by simp
      have dd := fun j => (hbW.cell (p := ⟨b1, j, none⟩) n1).trans (d0 j)
      have dd2 := fun j => (hbW.cell (p := ⟨b2, j, none⟩) n2).trans (d2 j)
      have HDN := Lib.hid (And.intro dd dd2)
      go_wp2_with fail
      refine (saw_c Ab Ap nb cb np cp l W.heap.size kf wrg most bs ms ps (swA bs ps kf most) J Jx HE.out OK.out hmost np (sw0 bs) (W.heap.size + 1) 0 wr (by omega) (by simp [sw0]) (okSw0 OK.out) (H0.out _ _ (by omega) hbW) ?saw (fun i x h => by unfold swA; rw [OK.out.bl, OK.out.pl, Nat.zero_add]; exact h)).mono ?_
      case saw => exact saw0_mem OK.out HKr.out (by rw [lgT_nb OK.out.bl] at HOr; exact HOr.out) (own_below' HC1.out hb (by omega) (Nat.le_refl _)) hz1
      have e0 : (swA bs ps kf most).length = 0 + (swL bs ps kf most nb np (sw0 bs)).length := by unfold swA; rw [OK.out.bl, OK.out.pl, Nat.zero_add]
      rintro e w' (⟨rfl, hJ, hK⟩ | ⟨rfl, hJ⟩)
      · have HJ := Lib.hid hJ
        clear hJ hK
        go_wp2
        go_end0
        exact ⟨⟨_, rfl⟩, .inl ⟨_, Nat.le_succ _, by rw [e0]; exact HJ.out⟩⟩
      · have HJ := Lib.hid hJ
        clear hJ
        go_wp2
        go_end0
        exact ⟨⟨_, rfl⟩, .inr HJ.out⟩

end Go.Proofs.Ytdhlnlmhdacblaa

namespace Go.Proofs.Ytdhlnlmhdacblaa
open Go.RowKit
open Go.Sort (grow)
set_option linter.unusedVariables false
set_option linter.unusedSimpArgs false

attribute [local go_sem] Oper.semAt_some
theorem okSt_of {bs : List Br} {ps : List Pc} {kf wr : Int} {nb np : Nat} (hb : bs.length = nb) (hp : ps.length = np) (h3 : ∀ k, k < np → (pcAt ps k).hs.length ≤ 40) (h : ckS bs ps kf wr = true) : OkSt bs ps kf nb np ∧ 0 ≤ wr ∧ wr ≤ 8 := by
  rw [ckS_eq bs ps kf wr hb hp] at h
  simp only [Bool.and_eq_true, decide_eq_true_eq, wi_true] at h
  obtain ⟨⟨h1, h2, h4, h5⟩, h6, h7⟩ := h
  rw [allN_iff] at h6 h7
  refine ⟨⟨h1, h2, hb, hp, h4, fun k hk => ?_, fun k hk => ?_⟩, h5⟩
  · have := h6 k hk
    simp only [ckB1, Bool.and_eq_true, wi_true] at this
    exact this.2
  · have := h7 k hk
    simp only [ckP1, Bool.and_eq_true, wi_true] at this
    exact ⟨this.1.1, this.1.2, h3 k hk⟩
def askE (bs : List Br) (ps : List Pc) (kf wr : Int) (is : Bool) : Int :=
  bif ckS bs ps kf wr then (bif is then (bif (swA bs ps kf wr).isEmpty then 3 else 0) else 1) else 10
/-- what truths leaves -/
def TrPost (Ab Ap : Option Addr) (nb cb np cp : Nat) (kf wrg : Int) (bs : List Br) (ms : List Pm) (ps : List Pc) (z : Int) (w : World) (e : Ending) (w' : World) : Prop :=
  ∃ f, e = .returned (.tuple #[f, .int .i64 z]) ∧ Below w.heap.size w w' ∧
    (z = 0 → ∃ b1 b2, f = .func (.func 103) #[] #[.pointer (some ⟨b1, 0, none⟩), .pointer (some ⟨b2, 0, none⟩)] ∧ w.heap.size ≤ b1 ∧ w.heap.size ≤ b2 ∧ b1 ≠ b2 ∧ SwMem b1 b2 Ab Ap nb cb np cp kf wrg wrg bs ms ps w') ∧ (z ≠ 0 → f = .nilFunc)
set_option maxRecDepth 100000 in
set_option maxHeartbeats 3200000 in
theorem truths_c (Ab Ap : Option Addr) (nb cb np cp : Nat) (kf wrg : Int) (is : Bool) (bs : List Br) (ms : List Pm) (ps : List Pc) (w : World) (h1 : nb ≤ 40) (h2 : np ≤ 40) (h3 : ∀ k, k < np → (pcAt ps k).hs.length ≤ 40) (HB : BrsAt w Ab nb bs) (HP : PcsAt w Ap np ms ps) :
    Calls Try.prog 71 #[.agg #[.slice Ab nb cb, .int .i64 kf, .slice Ap np cp, .int .i64 wrg], .bool is] w (TrPost Ab Ap nb cb np cp kf wrg bs ms ps (askE bs ps kf wrg is) w) := by
  have HBI := Lib.hid HB
  have HPI := Lib.hid HP
  have hck := fun W (hb : Below w.heap.size w W) => check_c Ab Ap nb cb np cp kf wrg bs ms ps W h1 h2 h3 (HB.later hb) (HP.later hb)
  have hBl := HB.1
  have hPl := HP.pl
  cases ek : ckS bs ps kf wrg
  · have e1 : askE bs ps kf wrg is = 10 := by simp [askE, ek]
    rw [e1]
    rw [ek, show erS false = 10 from rfl] at hck
    replace hck := Lib.hid hck
    clear HB HP hBl hPl h3 e1 ek
    go_enter Try.func71, Try.ntmps71
    go_wp2_with (go_at_call 87; refine (hck.out _ (by (repeat first | with_reducible assumption | with_reducible exact Below.refl _ _ | (with_reducible refine Below.alloc ?_ ?side _; case side => (first | omega | (with_reducible exact Below.size (by assumption)) | (simp; done) | (simp; omega))) | (with_reducible refine Below.setCell ?_ ?side _; case side => (first | omega | (with_reducible exact Below.size (by assumption)) | (simp; done) | (simp; omega))) | with_reducible refine Below.drew ?_ | with_reducible refine below_drewN ?_ _ | (with_reducible refine below_step (by assumption) ?side ?_; case side => (first | omega | (with_reducible exact Below.size (by assumption)) | (simp; done) | (simp; omega)))))).mono ?_; (rintro e w1 ⟨rfl, hb1⟩; obtain ⟨hc1, hf1⟩ := bcell hb1; have zs1 := hb1.size; (try simp at zs1); have n1_0 : w.heap.size < w1.heap.size := (by omega); have n1_1 : w.heap.size + 1 < w1.heap.size := (by omega); have n1_2 : w.heap.size + 2 < w1.heap.size := (by omega)))
    have p1 : w1.cell? ⟨w.heap.size + 1, 0, none⟩ = some .nilFunc := (hc1 _ 0 (by first | omega | (simp; done) | (simp; omega))).trans ((al3_1 rfl).2.1 0)
    have p2 : w1.cell? ⟨w.heap.size + 1 + 1, 0, none⟩ = some (.int .i64 0) := (hc1 _ 0 (by first | omega | (simp; done) | (simp; omega))).trans ((al3_2 rfl).2.1 0)
    obtain ⟨c1, c2⟩ := two_cells (u := .nilFunc) (v := .int .i64 10) (by simp) p1 p2
    exact bodyPost_ret (v := .tuple #[.nilFunc, .int .i64 10]) (by simp [results, Try.results71, go_sem, c1, c2]) rfl ⟨_, rfl, by (repeat first | with_reducible assumption | with_reducible exact Below.refl _ _ | (with_reducible refine Below.alloc ?_ ?side _; case side => (first | omega | (with_reducible exact Below.size (by assumption)) | (simp; done) | (simp; omega))) | (with_reducible refine Below.setCell ?_ ?side _; case side => (first | omega | (with_reducible exact Below.size (by assumption)) | (simp; done) | (simp; omega))) | with_reducible refine Below.drew ?_ | with_reducible refine below_drewN ?_ _ | (with_reducible refine below_step (by assumption) ?side ?_; case side => (first | omega | (with_reducible exact Below.size (by assumption)) | (simp; done) | (simp; omega)))), fun h => absurd h (by decide), fun _ => rfl⟩
  rw [ek, show erS true = 0 from rfl] at hck
  obtain ⟨hok, hw0, hw8⟩ := okSt_of hBl hPl h3 ek
  cases is
  · have e1 : askE bs ps kf wrg false = 1 := by simp [askE, ek]
    rw [e1]
    replace hck := Lib.hid hck
    clear HB HP hBl hPl h3 e1 ek hok
    go_enter Try.func71, Try.ntmps71
    go_wp2_with (go_at_call 87; refine (hck.out _ (by (repeat first | with_reducible assumption | with_reducible exact Below.refl _ _ | (with_reducible refine Below.alloc ?_ ?side _; case side => (first | omega | (with_reducible exact Below.size (by assumption)) | (simp; done) | (simp; omega))) | (with_reducible refine Below.setCell ?_ ?side _; case side => (first | omega | (with_reducible exact Below.size (by assumption)) | (simp; done) | (simp; omega))) | with_reducible refine Below.drew ?_ | with_reducible refine below_drewN ?_ _ | (with_reducible refine below_step (by assumption) ?side ?_; case side => (first | omega | (with_reducible exact Below.size (by assumption)) | (simp; done) | (simp; omega)))))).mono ?_; (rintro e w1 ⟨rfl, hb1⟩; obtain ⟨hc1, hf1⟩ := bcell hb1; have zs1 := hb1.size; (try simp at zs1); have n1_0 : w.heap.size < w1.heap.size := (by omega); have n1_1 : w.heap.size + 1 < w1.heap.size := (by omega); have n1_2 : w.heap.size + 2 < w1.heap.size := (by omega)))
    have p1 : w1.cell? ⟨w.heap.size + 1, 0, none⟩ = some .nilFunc := (hc1 _ 0 (by first | omega | (simp; done) | (simp; omega))).trans ((al3_1 rfl).2.1 0)
    have p2 : w1.cell? ⟨w.heap.size + 1 + 1, 0, none⟩ = some (.int .i64 0) := (hc1 _ 0 (by first | omega | (simp; done) | (simp; omega))).trans ((al3_2 rfl).2.1 0)
    obtain ⟨c1, c2⟩ := two_cells (u := .nilFunc) (v := .int .i64 1) (by simp) p1 p2
    exact bodyPost_ret (v := .tuple #[.nilFunc, .int .i64 1]) (by simp [results, Try.results71, go_sem, c1, c2]) rfl ⟨_, rfl, by (repeat first | with_reducible assumption | with_reducible exact Below.refl _ _ | (with_reducible refine Below.alloc ?_ ?side _; case side => (first | omega | (with_reducible exact Below.size (by assumption)) | (simp; done) | (simp; omega))) | (with_reducible refine Below.setCell ?_ ?side _; case side => (first | omega | (with_reducible exact Below.size (by assumption)) | (simp; done) | (simp; omega))) | with_reducible refine Below.drew ?_ | with_reducible refine below_drewN ?_ _ | (with_reducible refine below_step (by assumption) ?side ?_; case side => (first | omega | (with_reducible exact Below.size (by assumption)) | (simp; done) | (simp; omega)))), fun h => absurd h (by decide), fun _ => rfl⟩
  have e1 : askE bs ps kf wrg true = bif (swA bs ps kf wrg).isEmpty then 3 else 0 := by simp [askE, ek]
  rw [e1]
  have HOK := Lib.hid hok
  have hn8 := hok.hp
  replace hck := Lib.hid hck
  clear HB HP hBl hPl h3 e1 ek hok
  refine (callsIn_wide (n := 6)).1 (callsIn_of_wp_marks Try.func71 rfl trivial ?_ rfl)
  simp only [Try.ntmps71, List.size_toArray, List.length_cons, List.length_nil, Nat.reduceAdd, Nat.reduceSub, Array.replicate_succ, Array.replicate_zero, List.push_toArray, List.append_toArray, List.nil_append, List.cons_append]
  gi_wp2_with (refine ⟨trivial, ?_⟩; gi_at_call 87; refine callsIn_wide.2 ((hck.out _ (by (repeat first | with_reducible assumption | with_reducible exact Below.refl _ _ | (with_reducible refine Below.alloc ?_ ?side _; case side => (first | omega | (with_reducible exact Below.size (by assumption)) | (simp; done) | (simp; omega))) | (with_reducible refine Below.setCell ?_ ?side _; case side => (first | omega | (with_reducible exact Below.size (by assumption)) | (simp; done) | (simp; omega))) | with_reducible refine Below.drew ?_ | with_reducible refine below_drewN ?_ _ | (with_reducible refine below_step (by assumption) ?side ?_; case side => (first | omega | (with_reducible exact Below.size (by assumption)) | (simp; done) | (simp; omega)))))).mono ?_); (rintro e w1 ⟨rfl, hb1⟩; obtain ⟨hc1, hf1⟩ := bcell hb1; have zs1 := hb1.size; (try simp at zs1); have n1_0 : w.heap.size < w1.heap.size := (by omega); have n1_1 : w.heap.size + 1 < w1.heap.size := (by omega); have n1_2 : w.heap.size + 2 < w1.heap.size := (by omega)))
  have s0 := fun i => (hc1 (w.heap.size) i (by first | omega | (simp; done) | (simp; omega))).trans ((al3_0 rfl).2.1 i)
  have s1 := fun i => (hc1 (w.heap.size + 1) i (by first | omega | (simp; done) | (simp; omega))).trans ((al3_1 rfl).2.1 i)
  have s2 := fun i => (hc1 (w.heap.size + 1 + 1) i (by first | omega | (simp; done) | (simp; omega))).trans ((al3_2 rfl).2.1 i)
  have g1 := fun i => (hf1 (w.heap.size + 1) i (by first | omega | (simp; done) | (simp; omega))).trans ((al3_1 rfl).2.2 i)
  have g2 := fun i => (hf1 (w.heap.size + 1 + 1) i (by first | omega | (simp; done) | (simp; omega))).trans ((al3_2 rfl).2.2 i)
  have hbw1 : Below w.heap.size w w1 := by (repeat first | with_reducible assumption | with_reducible exact Below.refl _ _ | (with_reducible refine Below.alloc ?_ ?side _; case side => (first | omega | (with_reducible exact Below.size (by assumption)) | (simp; done) | (simp; omega))) | (with_reducible refine Below.setCell ?_ ?side _; case side => (first | omega | (with_reducible exact Below.size (by assumption)) | (simp; done) | (simp; omega))) | with_reducible refine Below.drew ?_ | with_reducible refine below_drewN ?_ _ | (with_reducible refine below_step (by assumption) ?side ?_; case side => (first | omega | (with_reducible exact Below.size (by assumption)) | (simp; done) | (simp; omega))))
  have zs1' := hbw1.size
  clear hc1 hf1 hb1
  refine ⟨trivial, callsIn_wide.2 ((sawings_c Ab Ap nb cb np cp kf wrg wrg w1).mono ?_)⟩
  rintro e w2 ⟨b1, b2, rfl, hg1, hg2, k1, k2, hb2⟩
  have K1 := Lib.hid k1
  have K2 := Lib.hid k2
  have hne : b1 ≠ b2 := by
    rintro rfl
    have := Eq.trans k1.symm k2
    simp at this
  have HNE := Lib.hid hne
  have l1 := k1.lt
  have l2 := k2.lt
  have zs2 := hb2.size
  have hbw2 : Below w.heap.size w w2 := hbw1.trans (hb2.mono (by omega))
  clear k1 k2 hne
  gi_wp2
  obtain ⟨W3, hW3⟩ : ∃ W3, w2.alloc (.cells #[.func (.func 103) #[] #[.pointer (some ⟨b1, 0, none⟩), .pointer (some ⟨b2, 0, none⟩)]] 118) = W3 := ⟨_, rfl⟩
  rw [hW3]
  have hb3 : Below w2.heap.size w2 W3 := (al1 hW3).1
  have z3 : W3.heap.size = w2.heap.size + 1 := (al1 hW3).2
  have q7 := (al1_0 hW3).2.1 0
  have K13 := Lib.hid (K1.out.below hb3 l1)
  have K23 := Lib.hid (K2.out.below hb3 l2)
  have hbw3 : Below w.heap.size w W3 := hbw2.trans (hb3.mono (by omega))
  have hb13 : Below w1.heap.size w1 W3 := hb2.trans (hb3.mono (by omega))
  have r1 := (hb13.cell (p := ⟨w.heap.size + 1, 0, none⟩) (by show w.heap.size + 1 < _; omega)).trans (s1 0)
  have r2 := (hb13.cell (p := ⟨w.heap.size + 1 + 1, 0, none⟩) (by show w.heap.size + 1 + 1 < _; omega)).trans (s2 0)
  have f1 := (hb13.frozen (p := ⟨w.heap.size + 1, 0, none⟩) (by show w.heap.size + 1 < _; omega)).trans (g1 0)
  have f2 := (hb13.frozen (p := ⟨w.heap.size + 1 + 1, 0, none⟩) (by show w.heap.size + 1 + 1 < _; omega)).trans (g2 0)
  have m1 : w.heap.size + 1 < W3.heap.size := by omega
  have m2 : w.heap.size + 1 + 1 < W3.heap.size := by omega
  have m7 : w2.heap.size < W3.heap.size := by omega
  have mb1 : w.heap.size + 1 + 1 < b1 := by omega
  have mb2 : w.heap.size + 1 + 1 < b2 := by omega
  have l13 : b1 < W3.heap.size := by omega
  have l23 : b2 < W3.heap.size := by omega
  have z03 := hbw3.size
  clear hW3 s0 s1 s2 g1 g2 K1 K2 l1 l2 hb2 hb3 hb13 hbw1 hbw2 zs2 zs1' hg1 hg2
  replace z3 := Lib.hid z3
  have en := enters_of Try.func103 (by kernel_rfl) rfl
  refine wpIn_rangeS (gf := 103) (fst := #[]) (lb := #[.pointer (some ⟨b1, 0, none⟩), .pointer (some ⟨b2, 0, none⟩)]) rfl en (sawings1_c b1 b2 Ab Ap nb cb np cp kf wrg wrg bs ms ps HOK.out ⟨hw0, hw8⟩) rfl
    (fun b k W => k = 0 ∧ Below W3.heap.size W3 W)
    (fun c W => c = .ret ∧ swA bs ps kf wrg ≠ [] ∧ Below w.heap.size w W ∧ W.cell? ⟨w.heap.size + 1, 0, none⟩ = some (.func (.func 103) #[] #[.pointer (some ⟨b1, 0, none⟩), .pointer (some ⟨b2, 0, none⟩)]) ∧ W.cell? ⟨w.heap.size + 1 + 1, 0, none⟩ = some (.int .i64 0) ∧ Blk W b1 25 #[.slice Ab nb cb, .int .i64 kf, .slice Ap np cp, .int .i64 wrg] ∧ Blk W b2 3 #[.int .i64 wrg]) ?hI ?hIx ?hmem ?h0 ?hround ?hdone ?hstop
  case hI =>
    rintro b k W W' hb ⟨rfl, a1⟩ ht
    exact ⟨rfl, ht.below (Nat.le_refl _) (by omega) a1.size a1⟩
  case hIx =>
    rintro c W W' ⟨rfl, a0, a1, a2, a3, a4, a5⟩ ht
    exact ⟨rfl, a0, ht.below (by omega) a1.size a1, ht.cell a2, ht.cell a3, (ht.heap a4 rfl).trans a4, (ht.heap a5 rfl).trans a5⟩
  case hmem =>
    rintro b k W hb ⟨-, h⟩
    have hw : Below w.heap.size w W := hbw3.trans (h.mono z03)
    exact ⟨K13.out.below h l13, K23.out.below h l23, HBI.out.later hw, HPI.out.later hw⟩
  case h0 => exact fun b W hb h => ⟨rfl, h⟩
  case hround =>
    rintro l b k x W hl hb hx ⟨rfl, a1⟩ hat
    have HX := Lib.hid hx
    clear hat hx
    gi_wp2
    refine ⟨KeepsFrom.refl _ _, KeepC.refl _ _, fun W2 ht => ?_⟩
    have t1 : Below W3.heap.size W3 W2 := ht.below (Nat.le_refl _) a1.size a1
    have c1 := (t1.cell (p := ⟨w.heap.size + 1, 0, none⟩) m1).trans r1
    have c2 := (t1.cell (p := ⟨w.heap.size + 1 + 1, 0, none⟩) m2).trans r2
    have c7 := (t1.cell (p := ⟨w2.heap.size, 0, none⟩) m7).trans q7
    have e1 := (t1.frozen (p := ⟨w.heap.size + 1, 0, none⟩) m1).trans f1
    have e2 := (t1.frozen (p := ⟨w.heap.size + 1 + 1, 0, none⟩) m2).trans f2
    have hw : Below w.heap.size w W2 := hbw3.trans (t1.mono z03)
    have k1 := Lib.hid (K13.out.below t1 l13)
    have k2 := Lib.hid (K23.out.below t1 l23)
    clear a1 ht r1 r2 f1 f2 q7
    gi_wp2
    obtain ⟨d1, d2⟩ := two_cells (u := .func (.func 103) #[] #[.pointer (some ⟨b1, 0, none⟩), .pointer (some ⟨b2, 0, none⟩)]) (v := .int .i64 0) (by simp) c1 c2
    exact ⟨by (repeat first | with_reducible assumption | with_reducible exact KeepsFrom.refl _ _ | with_reducible refine keeps_setCell ?_ _ _ | with_reducible refine keeps_alloc ?_ _ | with_reducible refine keeps_drew ?_ | with_reducible refine keeps_drewN ?_ _ | with_reducible refine keeps_step (by assumption) (Nat.le_refl _) ?_), rfl, (fun e => by have := HX.out; rw [e] at this; simp at this), by (repeat first | with_reducible assumption | with_reducible exact Below.refl _ _ | (with_reducible refine Below.alloc ?_ ?side _; case side => (first | omega | (with_reducible exact Below.size (by assumption)) | (simp; done) | (simp; omega))) | (with_reducible refine Below.setCell ?_ ?side _; case side => (first | omega | (with_reducible exact Below.size (by assumption)) | (simp; done) | (simp; omega))) | with_reducible refine Below.drew ?_ | with_reducible refine below_drewN ?_ _ | (with_reducible refine below_step (by assumption) ?side ?_; case side => (first | omega | (with_reducible exact Below.size (by assumption)) | (simp; done) | (simp; omega)))), d1, d2, (k1.out.far (by show b1 ≠ w.heap.size + 1; omega) _).far (by show b1 ≠ w.heap.size + 1 + 1; omega) _, (k2.out.far (by show b2 ≠ w.heap.size + 1; omega) _).far (by show b2 ≠ w.heap.size + 1 + 1; omega) _⟩
  case hdone =>
    rintro D b W hD hb ⟨h, a1⟩ hK
    have hE := Lib.hid (List.eq_nil_of_length_eq_zero h)
    have c1 := (a1.cell (p := ⟨w.heap.size + 1, 0, none⟩) m1).trans r1
    have c2 := (a1.cell (p := ⟨w.heap.size + 1 + 1, 0, none⟩) m2).trans r2
    have e1 := (a1.frozen (p := ⟨w.heap.size + 1, 0, none⟩) m1).trans f1
    have e2 := (a1.frozen (p := ⟨w.heap.size + 1 + 1, 0, none⟩) m2).trans f2
    have hw : Below w.heap.size w W := hbw3.trans (a1.mono z03)
    have zw := a1.size
    clear h
    gi_wp2
    rw [hE.out]
    obtain ⟨d1, d2⟩ := two_cells (u := .nilFunc) (v := .int .i64 3) (by simp) c1 c2
    refine leave_mark (v := .tuple #[.nilFunc, .int .i64 3]) (keeps_mark (B := W3.heap.size) (W := W) (by (repeat first | with_reducible assumption | with_reducible exact KeepsFrom.refl _ _ | with_reducible refine keeps_setCell ?_ _ _ | with_reducible refine keeps_alloc ?_ _ | with_reducible refine keeps_drew ?_ | with_reducible refine keeps_drewN ?_ _ | with_reducible refine keeps_step (by assumption) (Nat.le_refl _) ?_)) hD hK) (fun W' ht => ?_) (fun W' ht => ⟨_, rfl, ht.below (by omega) (by simp; omega) (by (repeat first | with_reducible assumption | with_reducible exact Below.refl _ _ | (with_reducible refine Below.alloc ?_ ?side _; case side => (first | omega | (with_reducible exact Below.size (by assumption)) | (simp; done) | (simp; omega))) | (with_reducible refine Below.setCell ?_ ?side _; case side => (first | omega | (with_reducible exact Below.size (by assumption)) | (simp; done) | (simp; omega))) | with_reducible refine Below.drew ?_ | with_reducible refine below_drewN ?_ _ | (with_reducible refine below_step (by assumption) ?side ?_; case side => (first | omega | (with_reducible exact Below.size (by assumption)) | (simp; done) | (simp; omega))))), fun h => absurd h (by decide), fun _ => rfl⟩)
    have d1' := ht.cell d1
    have d2' := ht.cell d2
    simp [results, Try.results71, go_sem, d1', d2']
  case hstop =>
    rintro D c W hD ⟨rfl, a0, a1, a2, a3, a4, a5⟩ hK
    have hE0 : (swA bs ps kf wrg).isEmpty = false := by
      cases e : swA bs ps kf wrg with
      | nil => exact absurd e a0
      | cons => rfl
    have hE := Lib.hid hE0
    have K4 := Lib.hid a4
    have K5 := Lib.hid a5
    clear hE0 a0 a4 a5
    gi_wp2
    rw [hE.out]
    have zz := a1.size
    refine leave_mark (v := .tuple #[.func (.func 103) #[] #[.pointer (some ⟨b1, 0, none⟩), .pointer (some ⟨b2, 0, none⟩)], .int .i64 0]) hK (fun W' ht => ?_) (fun W' ht => ?_)
    · have d1' := ht.cell a2
      have d2' := ht.cell a3
      simp [results, Try.results71, go_sem, d1', d2']
    · have hw : Below w.heap.size w W' := ht.below (by omega) zz a1
      exact ⟨_, rfl, hw, fun _ => ⟨b1, b2, rfl, by omega, by omega, HNE.out, (ht.heap K4.out rfl).trans K4.out, (ht.heap K5.out rfl).trans K5.out, HBI.out.later hw, HPI.out.later hw⟩, fun h => absurd rfl h⟩
theorem TrPost.err {Ab Ap : Option Addr} {nb cb np cp : Nat} {kf wrg : Int} {bs : List Br} {ms : List Pm} {ps : List Pc} {z : Int} {w : World} {e : Ending} {w' : World} (h : TrPost Ab Ap nb cb np cp kf wrg bs ms ps z w e w') (hz : z ≠ 0) : e = .returned (.tuple #[.nilFunc, .int .i64 z]) ∧ Below w.heap.size w w' := by
  obtain ⟨f, h1, h2, -, h3⟩ := h
  rw [h3 hz] at h1
  exact ⟨h1, h2⟩

end Go.Proofs.Ytdhlnlmhdacblaa
