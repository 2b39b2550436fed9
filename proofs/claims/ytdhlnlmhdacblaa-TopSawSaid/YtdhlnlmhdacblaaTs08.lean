/- saw of bars (layer 1): all sawings behind one, one after the other, handed to a function. -/
import Derived.Test.YtdhlnlmhdacblaaTs07
import Derived.Deep.DrawnRows
import Derived.Deep.DeepCutAuto
import Derived.Deep.RegionLaw
namespace Go.Proofs.Ytdhlnlmhdacblaa
open Go.RowKit
open Go.Sort (grow)
set_option linter.unusedVariables false
set_option linter.unusedSimpArgs false

attribute [local go_sem ↓] Go.wp_at_zero Go.wp_at_succ
def StMem (Ab Ap : Option Addr) (nb np : Nat) (bs : List Br) (ms : List Pm) (ps : List Pc) (W : World) : Prop := BrsAt W Ab nb bs ∧ PcsAt W Ap np ms ps
def SawPost (J : Nat → Nat → World → Prop) (Jx : World → Prop) (B b k : Nat) (w : World) (e : Ending) (W' : World) : Prop :=
  (e = .returned (.bool true) ∧ J b k W' ∧ KeepC B w W') ∨ (e = .returned (.bool false) ∧ Jx W')
/-- what saw asks of the one that is handed the sawings -/
structure SawEnv (P : Program) (B : Nat) (l : Nat) (nb : Nat) (Mem : World → Prop) (xs : List Sw) (J : Nat → Nat → World → Prop) (Jx : World → Prop) : Prop where
  mem : ∀ b k W1, B ≤ b → J b k W1 → Mem W1
  but : ∀ b k W1 W2, B ≤ b → J b k W1 → But b W1 W2 → J b k W2
  yld : ∀ b k x W1, B ≤ b → xs[k]? = some x → J b k W1 → SawM B b nb x W1 → YieldW P l #[.pointer (some ⟨b, 0, none⟩)] W1 fun e W' => (e = .returned (.bool true) ∧ J b (k + 1) W' ∧ KeepC B W1 W') ∨ (e = .returned (.bool false) ∧ Jx W')
theorem ints_nil {w : World} {A : Option Addr} {n : Nat} {xs : List Int} (h : IntsAt w A n xs) (e : A = none) : n = 0 ∧ n = 0 := by
  rcases Nat.eq_zero_or_pos n with h0 | h0
  · exact ⟨h0, h0⟩
  · obtain ⟨_, _, e', -⟩ := h.2 h0
    rw [e] at e'; cases e'
set_option maxRecDepth 100000 in
set_option maxHeartbeats 1600000 in
theorem saw0_c (Ab Ap : Option Addr) (nb cb np cp l B b k : Nat) (kf wrg most : Int) (bs : List Br) (ms : List Pm) (ps : List Pc) (xs : List Sw) (J : Nat → Nat → World → Prop) (Jx : World → Prop) (st : Sw) (w : World)
    (E : SawEnv Try.prog B l nb (StMem Ab Ap nb np bs ms ps) xs J Jx) (hB : B ≤ b) (hl : st.of.length = np) (hJ : J b k w) (HS : SawM B b nb st w) (hx : xs[k]? = some st) :
    Calls Try.prog 104 #[.pointer (some ⟨b, 0, none⟩), .agg #[.slice Ab nb cb, .int .i64 kf, .slice Ap np cp, .int .i64 wrg], .int .i64 most, .func (.yield l) #[] #[]] w (SawPost J Jx B b (k + 1) w) := by
  obtain ⟨A1, c1, A2, c2, A3, c3, h0, -⟩ := HS.ex
  obtain ⟨X, hX⟩ : ∃ X, w.alloc (.cells #[.slice Ab nb cb, .int .i64 kf, .slice Ap np cp, .int .i64 wrg] 25) = X := ⟨_, rfl⟩
  have BX := (al1 hX).1
  have P0 := (al1_0 hX).2.1
  have hbl : b < w.heap.size := h0.lt
  have o0 := fun j => (BX.cell (p := ⟨b, j, none⟩) hbl).trans (h0.cell j)
  rw [hl] at o0
  obtain ⟨fn, tmps, assign, body, hy, hR⟩ := E.yld b k st X hB hx (E.but b k w X hB hJ (.of_below BX)) (HS.later BX)
  have hKX : KeepC B w X := .of_below BX
  have HKX := Lib.hid hKX
  have hBX := Nat.lt_of_lt_of_le hbl BX.size
  clear h0 HS hJ hx E hKX
  refine (callsIn_wide (n := 3)).1 (callsIn_of_wp Try.func104 rfl trivial ?_ rfl)
  simp only [Try.ntmps104, List.size_toArray, List.length_cons, List.length_nil, Nat.reduceAdd, Nat.reduceSub, Array.replicate_succ, Array.replicate_zero, List.push_toArray, List.append_toArray, List.nil_append, List.cons_append]
  gi_wp2
  refine (hR _).mono ?_
  rintro e W4 (⟨rfl, hJ4, hK4⟩ | ⟨rfl, hJ4⟩)
  · have HP := Lib.hid (And.intro hJ4 (HKX.out.trans hK4))
    clear hJ4 hK4 hy hR hX
    gi_wp2
    go_ret
    exact .inl ⟨rfl, HP.out⟩
  · have HP := Lib.hid hJ4
    clear hJ4 hy hR hX
    gi_wp2
    go_ret
    exact .inr ⟨rfl, HP.out⟩
set_option maxRecDepth 100000 in
set_option maxHeartbeats 12800000 in
theorem saw_c (Ab Ap : Option Addr) (nb cb np cp l B : Nat) (kf wrg most : Int) (bs : List Br) (ms : List Pm) (ps : List Pc) (xs : List Sw) (J : Nat → Nat → World → Prop) (Jx : World → Prop)
    (E : SawEnv Try.prog B l nb (StMem Ab Ap nb np bs ms ps) xs J Jx) (ok : OkSt bs ps kf nb np) (hmost : 0 ≤ most ∧ most ≤ 8) : ∀ (p : Nat) (st : Sw) (b k : Nat) (w : World), B ≤ b → st.of.length + p = np → OkSw nb st → J b k w → SawM B b nb st w →
      (∀ i x, (swL bs ps kf most nb p st)[i]? = some x → xs[k + i]? = some x) →
    Calls Try.prog 104 #[.pointer (some ⟨b, 0, none⟩), .agg #[.slice Ab nb cb, .int .i64 kf, .slice Ap np cp, .int .i64 wrg], .int .i64 most, .func (.yield l) #[] #[]] w (SawPost J Jx B b (k + (swL bs ps kf most nb p st).length) w) := by
  intro p
  induction p with
  | zero =>
    intro st b k w hB hl _ hJ HS hx
    exact saw0_c Ab Ap nb cb np cp l B b k kf wrg most bs ms ps xs J Jx st w E hB (by omega) hJ HS (hx 0 st rfl)
  | succ p ih =>
    intro st b k w hB hl hOk hJ HS hx
    obtain ⟨A1, c1, A2, c2, A3, c3, h0, hc1, hn1, ⟨i1, a1⟩, ⟨i2, a2⟩, i3, a3⟩ := HS.ex
    have hrl := HS.rl
    have hcl := HS.cl
    rw [swL_succ] at hx ⊢
    have hbl : b < w.heap.size := h0.lt
    obtain ⟨L, hL⟩ : ∃ L, st.of.length = L := ⟨_, rfl⟩
    have hLp : L < np := by omega
    obtain ⟨lg, hlg⟩ : ∃ lg, (pcAt ps L).long = lg := ⟨_, rfl⟩
    have hlb := ok.pc L hLp
    have hkf := ok.kf
    have hnb := ok.hb
    have hnp := ok.hp
    rw [hlg] at hlb
    have hLB : ((L : Int) == np) = false := by simp; omega
    have hM0 := E.mem b k w hB hJ
    obtain ⟨pb, po, hApe, hpb, px, -, -⟩ := hM0.2.get hLp
    rw [hlg] at px
    subst hApe
    have HL := Lib.hid hL
    have HLG := Lib.hid hlg
    have OK := Lib.hid ok
    have OKW := Lib.hid hOk
    have HE := Lib.hid E
    have HX := Lib.hid hx
    have HIH := Lib.hid ih
    have H0 := Lib.hid h0
    have HJ := Lib.hid hJ
    have HSS := Lib.hid HS
    have hB0 := fun j => h0.cell j
    rw [hL] at hB0
    have hl1 : IntsAt w A1 L st.of := by rw [← hL]; exact i1
    have I1 := Lib.hid hl1
    have I2 := Lib.hid i2
    have I3 := Lib.hid i3
    have AD := Lib.hid (And.intro a1 (And.intro a2 a3))
    have hc1' : L ≤ c1 := by rw [← hL]; exact hc1
    clear ok hOk E hx ih h0 hJ HS i1 i2 i3 a1 a2 a3 hM0 hl1 hc1 hL hlg
    go_enter Try.func104, Try.ntmps104
    go_wp2_with fail
    go_name_world X hX
    have BX : Below w.heap.size w X := (al1 hX).1
    have zX : X.heap.size = w.heap.size + 1 := (al1 hX).2
    have P0 := Lib.hid (al1_0 hX).2.1
    have lX : w.heap.size < X.heap.size := by omega
    have H0X := Lib.hid (H0.out.below BX hbl)
    have J0 := Lib.hid (HE.out.but b k w X hB HJ.out (.of_below BX))
    have S0 := Lib.hid (HSS.out.later BX)
    clear hX hB0 px
    go_loopw [35] (fun i (wr : World) => ∃ q : Nat, q ≤ nb ∧ i = .int .i64 q ∧ Hid (J b (k + (swK bs ps kf most nb p st q).length) wr) ∧ Hid (KeepC B X wr)) (fun i _ => nb - (intOf i).toNat)
    case atStart => exact ⟨0, by omega, rfl, J0, KeepC.refl _ _⟩
    case round =>
      obtain ⟨q, hq, rfl, HJr, HKr⟩ := hrel
      have hzr := HKr.out.1
      by_cases hqn : q < nb
      · have hqB : decide ((q : Int) < nb) = true := by simp; omega
        have pB := fun j => (HKr.out.cell (p := ⟨w.heap.size, j, none⟩) lX (by show B ≤ w.heap.size; omega)).trans (P0.out j)
        have HBr := Lib.hid (HKr.out.blk H0X.out hB)
        have SW := Lib.hid (S0.out.keep HKr.out (Nat.le_refl _) hB)
        have hlt : b < wr.heap.size := by omega
        have hltp : w.heap.size < wr.heap.size := by omega
        have hfc := fits_c b nb q kf lg st wr hqn (SW.out.less (Nat.zero_le _)) hkf (by omega)
        cases hf : fitS kf st q lg
        · rw [hf] at hfc
          have HT : Hid (tkS bs ps kf most st q = false) := by show _ = _; unfold tkS; rw [HL.out, HLG.out, hf]; rfl
          replace hfc := Lib.hid hfc
          clear hf
          go_wp2_with (go_at_call 111; refine hfc.out.mono ?_; rintro e w' ⟨rfl, rfl⟩)
          go_roundw
          case rel => exact ⟨q + 1, by omega, by go_num, by show J _ _ _; rw [swK_no HT.out]; exact HJr.out, HKr⟩
          case measure => simp [intOf]; omega
        · rw [hf] at hfc
          replace hfc := Lib.hid hfc
          have HF := Lib.hid hf
          have hB0 := HBr.out.cell
          rw [HL.out] at hB0
          clear hf
          go_wp2_with (first | (go_at_call 111; refine hfc.out.mono ?_; rintro e w' ⟨rfl, rfl⟩) | (at_builtin; go_must (refine wpList_append_N _ (d := (0 : Int)) rfl (.tmp 55) (.tmp 57) _ rfl _ 1 8 intE encI_len A1 L L st.of rfl ?sl ?nn (some ⟨wr.heap.size + 1, 0, none⟩) 1 1 [(q : Int)] rfl ?sr (by omega) (by omega) (by omega) ?_; (case sl => exact ints_iff.1 ((HKr.out.ints (I1.out.later BX) (fun a e => (AD.out.1 a e).1)).later (by (repeat first | with_reducible assumption | with_reducible exact Below.refl _ _ | (with_reducible refine Below.alloc ?_ ?side _; case side => (first | omega | (with_reducible exact Below.size (by assumption)) | (simp; done) | (simp; omega))) | (with_reducible refine Below.setCell ?_ ?side _; case side => (first | omega | (with_reducible exact Below.size (by assumption)) | (simp; done) | (simp; omega))) | with_reducible refine Below.drew ?_ | with_reducible refine below_drewN ?_ _ | (with_reducible refine below_step (by assumption) ?side ?_; case side => (first | omega | (with_reducible exact Below.size (by assumption)) | (simp; done) | (simp; omega))))))); (case nn => exact ints_nil I1.out); (case sr => exact sl_new encI_len (by simp) rfl rfl); (rintro c5 w5 ho5 hb5); (have hB5 : Below wr.heap.size wr w5 := Below.trans (by (repeat first | with_reducible assumption | with_reducible exact Below.refl _ _ | (with_reducible refine Below.alloc ?_ ?side _; case side => (first | omega | (with_reducible exact Below.size (by assumption)) | (simp; done) | (simp; omega))) | (with_reducible refine Below.setCell ?_ ?side _; case side => (first | omega | (with_reducible exact Below.size (by assumption)) | (simp; done) | (simp; omega))) | with_reducible refine Below.drew ?_ | with_reducible refine below_drewN ?_ _ | (with_reducible refine below_step (by assumption) ?side ?_; case side => (first | omega | (with_reducible exact Below.size (by assumption)) | (simp; done) | (simp; omega))))) (hb5.mono (by simp; omega))); (have z5 := hB5.size); (have z5' := hb5.size); (simp at z5'); (have HO5 : Hid (w5.ownsRow wr.heap.size 3 1 (.slice (some ⟨wr.heap.size + 1 + 1, 0, none⟩) (L + 1) c5) (L + 1) ((st.of ++ [(q : Int)]).flatMap encI)) := (by have h := ho5; simp only [World.size_alloc] at h; exact own_mono h (by omega))); (have HBL5 := Lib.hid hB5); (have hB5c := fun j => (hB5.cell (p := ⟨b, j, none⟩) hlt).trans (hB0 j)); (have hB5f := fun j => ((HBr.out.below hB5 hlt).frozen j)); (have HOB5 : Hid (Blk w5 wr.heap.size 124 #[.slice A1 L c1, .slice A2 nb c2, .slice A3 nb c3, .int .i64 st.wrong]) := ((Blk.new wr _ _).alloc _).below hb5 (by simp; omega)); (have n5 : b < w5.heap.size := by omega); clear ho5 hb5 hB5 hB0)))
          go_name_world W6 hW6
          have HB6 : Blk W6 b 124 #[.slice (some ⟨wr.heap.size + 1 + 1, 0, none⟩) (L + 1) c5, .slice A2 nb c2, .slice A3 nb c3, .int .i64 st.wrong] := by
            have h := (HBr.out.below HBL5.out hlt)
            rw [HL.out] at h
            have h2 := h.set_ 0 (.slice (some ⟨wr.heap.size + 1 + 1, 0, none⟩) (L + 1) c5)
            rw [← hW6]
            simpa using h2
          have hbt6 : But b wr W6 := by rw [← hW6]; exact (But.of_below HBL5.out).trans (.set n5 0 _)
          have HOB6 := Lib.hid (by rw [← hW6]; exact HOB5.out.far (by show wr.heap.size ≠ b; omega) _ : Blk W6 wr.heap.size 124 #[.slice A1 L c1, .slice A2 nb c2, .slice A3 nb c3, .int .i64 st.wrong])
          have HO6 := Lib.hid (by rw [← hW6]; exact own_set HO5.out (fun k hk => by cases hk; show wr.heap.size + 1 + 1 ≠ b; omega) : W6.ownsRow wr.heap.size 3 1 (.slice (some ⟨wr.heap.size + 1 + 1, 0, none⟩) (L + 1) c5) (L + 1) ((st.of ++ [(q : Int)]).flatMap encI))
          have HP6 := Lib.hid (by rw [← hW6]; exact fun j => (World.cell?_setCell_other _ _ _ _ (by intro h; simp only [Addr.mk.injEq] at h; omega)).trans ((HBL5.out.cell (p := ⟨w.heap.size, j, none⟩) hltp).trans (pB j)) : ∀ j, W6.cell? ⟨w.heap.size, j, none⟩ = #[Value.slice Ab nb cb, .int .i64 kf, .slice (some ⟨pb, po, none⟩) np cp, .int .i64 wrg][j]?)
          have n6 : b < W6.heap.size := HB6.lt
          have z6 := hbt6.size
          have nw6 : wr.heap.size + 1 + 1 < W6.heap.size := (own_addr HO6.out _ rfl).2
          have HBT6 := Lib.hid hbt6
          have J6 := Lib.hid (HE.out.but b _ wr W6 hB HJr.out hbt6)
          have I26 : IntsAt W6 A2 nb st.rests := hbt6.ints (HKr.out.ints (I2.out.later BX) (fun a e => (AD.out.2.1 a e).1)) (fun a e => (AD.out.2.1 a e).2.1)
          have I36 : IntsAt W6 A3 nb st.cuts := hbt6.ints (HKr.out.ints (I3.out.later BX) (fun a e => (AD.out.2.2 a e).1)) (fun a e => (AD.out.2.2 a e).2.1)
          have hc2 := Lib.hid (fun V (hV : Below W6.heap.size W6 V) => clone_c A2 nb c2 st.rests V (by omega) (I26.later hV))
          have hc3 := Lib.hid (fun V (hV : Below W6.heap.size W6 V) => clone_c A3 nb c3 st.cuts V (by omega) (I36.later hV))
          have e6 := HB6.cell
          have f6 := HB6.frozen
          have HBK6 := Lib.hid HB6
          clear hW6 hbt6 I26 I36 HB6 hB5c hB5f HO5 HBL5 HOB5 pB
          go_cut [] (fun wx => ∃ g2 d2 g3 d3, Hid (Mid b wr.heap.size nb (wr.heap.size + 1 + 1) c5 g2 d2 g3 d3 #[.slice A1 L c1, .slice A2 nb c2, .slice A3 nb c3, .int .i64 st.wrong] (st.of ++ [(q : Int)]) st.rests st.cuts st.wrong wr wx) ∧ Hid (∀ j, wx.cell? ⟨w.heap.size, j, none⟩ = #[Value.slice Ab nb cb, .int .i64 kf, .slice (some ⟨pb, po, none⟩) np cp, .int .i64 wrg][j]?))
          case first =>
            go_region_with ((first | (go_at_call 73; with_reducible refine (hc2.out _ (by (repeat first | with_reducible assumption | with_reducible exact Below.refl _ _ | (with_reducible refine Below.alloc ?_ ?side _; case side => (first | omega | (with_reducible exact Below.size (by assumption)) | (simp; done) | (simp; omega))) | (with_reducible refine Below.setCell ?_ ?side _; case side => (first | omega | (with_reducible exact Below.size (by assumption)) | (simp; done) | (simp; omega))) | with_reducible refine Below.drew ?_ | with_reducible refine below_drewN ?_ _ | (with_reducible refine below_step (by assumption) ?side ?_; case side => (first | omega | (with_reducible exact Below.size (by assumption)) | (simp; done) | (simp; omega)))))).mono ?_; (rintro e w7 ⟨G2, d2, rfl, ho7, hb7⟩); (have hB7 : Below W6.heap.size W6 w7 := Below.trans (by (repeat first | with_reducible assumption | with_reducible exact Below.refl _ _ | (with_reducible refine Below.alloc ?_ ?side _; case side => (first | omega | (with_reducible exact Below.size (by assumption)) | (simp; done) | (simp; omega))) | (with_reducible refine Below.setCell ?_ ?side _; case side => (first | omega | (with_reducible exact Below.size (by assumption)) | (simp; done) | (simp; omega))) | with_reducible refine Below.drew ?_ | with_reducible refine below_drewN ?_ _ | (with_reducible refine below_step (by assumption) ?side ?_; case side => (first | omega | (with_reducible exact Below.size (by assumption)) | (simp; done) | (simp; omega))))) (hb7.mono (by first | exact Nat.le_refl _ | (simp; done)))); (have e7 := fun j => (hB7.cell (p := ⟨b, j, none⟩) n6).trans (e6 j)); (have HO7 := Lib.hid ho7); (have z7 := hB7.size); (have n7 : b < w7.heap.size := Nat.lt_of_lt_of_le n6 z7); clear ho7 hb7) | (go_at_call 73; with_reducible refine (hc3.out _ (by (repeat first | with_reducible assumption | with_reducible exact Below.refl _ _ | (with_reducible refine Below.alloc ?_ ?side _; case side => (first | omega | (with_reducible exact Below.size (by assumption)) | (simp; done) | (simp; omega))) | (with_reducible refine Below.setCell ?_ ?side _; case side => (first | omega | (with_reducible exact Below.size (by assumption)) | (simp; done) | (simp; omega))) | with_reducible refine Below.drew ?_ | with_reducible refine below_drewN ?_ _ | (with_reducible refine below_step (by assumption) ?side ?_; case side => (first | omega | (with_reducible exact Below.size (by assumption)) | (simp; done) | (simp; omega)))))).mono ?_; (rintro e w8 ⟨G3, d3, rfl, ho8, hb8⟩); (have hB8 : Below w7.heap.size w7 w8 := Below.trans (by (repeat first | with_reducible assumption | with_reducible exact Below.refl _ _ | (with_reducible refine Below.alloc ?_ ?side _; case side => (first | omega | (with_reducible exact Below.size (by assumption)) | (simp; done) | (simp; omega))) | (with_reducible refine Below.setCell ?_ ?side _; case side => (first | omega | (with_reducible exact Below.size (by assumption)) | (simp; done) | (simp; omega))) | with_reducible refine Below.drew ?_ | with_reducible refine below_drewN ?_ _ | (with_reducible refine below_step (by assumption) ?side ?_; case side => (first | omega | (with_reducible exact Below.size (by assumption)) | (simp; done) | (simp; omega))))) (hb8.mono (by first | exact Nat.le_refl _ | (simp; done)))); (have e8 := fun j => (hB8.cell (p := ⟨b, j, none⟩) n7).trans (e7 j)); (have f8 := fun j => ((HBK6.out.below hB7 n6).below hB8 n7).frozen j); (have HO8 := Lib.hid ho8); (have z8 := hB8.size); clear ho8 hb8)))
            all_goals
              go_wp2_with fail
              go_meet
              exact mid_cloned hB7 hB8 HO7.out HO8.out HO6.out HBK6.out HOB6.out HBT6.out HP6.out HL.out hrl hcl hlt n6 hltp (by omega) (by omega)
          case rest =>
            obtain ⟨g2, d2, g3, d3, M9, P9⟩ := hcut
            clear e6 f6 HO6 HBT6 HBK6 HOB6 hc2 hc3
            obtain ⟨r, hr⟩ : ∃ r, iAt st.rests q = r := ⟨_, rfl⟩
            obtain ⟨c, hc⟩ : ∃ c, iAt st.cuts q = c := ⟨_, rfl⟩
            have hrb := OKW.out.rests q hqn
            have hcb := OKW.out.cuts q hqn
            rw [hr] at hrb
            rw [hc, HL.out] at hcb
            have HR := Lib.hid hr
            have HC := Lib.hid hc
            have w1 : IntKind.i64.wrap (r - lg) = r - lg := IntWalk.i64_in _ (by omega)
            have w2 : IntKind.i64.wrap (c + 1) = c + 1 := IntWalk.i64_in _ (by omega)
            have w3 : IntKind.i64.wrap (r - lg - kf) = r - lg - kf := IntWalk.i64_in _ (by omega)
            have e9 := M9.out.blk.cell
            have f9 := M9.out.blk.frozen
            have g9 := own_int_get M9.out.o2 M9.out.rl hqn
            have h9 := M9.out.o2.frozenAt q
            have i9 := own_int_get M9.out.o3 M9.out.cl hqn
            have j9 := M9.out.o3.frozenAt q
            have y9 := P9.out
            rw [hr] at g9
            rw [hc] at i9
            clear hr hc
            go_upto_region 13 with (fail)
            go_name_world Wa hWa
            have M10 := M9.out.set2 hqn (r - lg)
            rw [hWa] at M10
            replace M10 := Lib.hid M10
            have P10 := Lib.hid (by rw [← hWa]; exact fun j => (World.cell?_setCell_other _ _ _ _ (by intro h; simp only [Addr.mk.injEq] at h; have := M9.out.ge; omega)).trans (y9 j) : ∀ j, Wa.cell? ⟨w.heap.size, j, none⟩ = #[Value.slice Ab nb cb, .int .i64 kf, .slice (some ⟨pb, po, none⟩) np cp, .int .i64 wrg][j]?)
            clear e9 f9 g9 h9 i9 j9 y9 hWa
            have e10 := M10.out.blk.cell
            have f10 := M10.out.blk.frozen
            have g10 := own_int_get M10.out.o2 M10.out.rl hqn
            have h10 := M10.out.o2.frozenAt q
            have i10 := own_int_get M10.out.o3 M10.out.cl hqn
            have j10 := M10.out.o3.frozenAt q
            have y10 := P10.out
            rw [HC.out] at i10
            go_upto_region 14 with (fail)
            go_name_world Wb hWb
            have M11 := M10.out.set3 hqn (c + 1)
            rw [hWb] at M11
            replace M11 := Lib.hid M11
            have P11 := Lib.hid (by rw [← hWb]; exact fun j => (World.cell?_setCell_other _ _ _ _ (by intro h; simp only [Addr.mk.injEq] at h; have := M9.out.ge; omega)).trans (y10 j) : ∀ j, Wb.cell? ⟨w.heap.size, j, none⟩ = #[Value.slice Ab nb cb, .int .i64 kf, .slice (some ⟨pb, po, none⟩) np cp, .int .i64 wrg][j]?)
            clear e10 f10 g10 h10 i10 j10 y10 hWb
            have e11 := M11.out.blk.cell
            have f11 := M11.out.blk.frozen
            have g11 := own_int_get M11.out.o2 M11.out.rl hqn
            have h11 := M11.out.o2.frozenAt q
            have i11 := own_int_get M11.out.o3 M11.out.cl hqn
            have j11 := M11.out.o3.frozenAt q
            have y11 := P11.out
            rw [iAt_set (by rw [hcl]; exact hqn), if_pos rfl] at i11
            rw [iAt_set (by rw [hrl]; exact hqn), if_pos rfl] at g11
            go_upto_if 103 with (fail)
            go_cut [] (fun wx => Hid (Mid b wr.heap.size nb (wr.heap.size + 1 + 1) c5 g2 d2 g3 d3 #[.slice A1 L c1, .slice A2 nb c2, .slice A3 nb c3, .int .i64 st.wrong] (st.of ++ [(q : Int)]) (st.rests.set q (r - lg - (bif decide (0 < c) then kf else 0))) (st.cuts.set q (c + 1)) st.wrong wr wx) ∧ Hid (∀ j, wx.cell? ⟨w.heap.size, j, none⟩ = #[Value.slice Ab nb cb, .int .i64 kf, .slice (some ⟨pb, po, none⟩) np cp, .int .i64 wrg][j]?))
            case first =>
              by_cases hc0 : 0 < c
              · have hcB : decide (1 < c + 1) = true := by simp; omega
                have hcB2 := Lib.hid (by simpa using hc0 : decide (0 < c) = true)
                go_wp2_with fail
                go_region
                go_wp2_with fail
                go_meet
                rw [hcB2.out]
                refine ⟨Lib.hid ?_, Lib.hid fun j => (World.cell?_setCell_other _ _ _ _ (by intro h; simp only [Addr.mk.injEq] at h; have := M11.out.ge; omega)).trans (y11 j)⟩
                have := M11.out.drew.set2 hqn (r - lg - kf)
                rw [List.set_set] at this
                exact this
              · have hcB : decide (1 < c + 1) = false := by simp; omega
                have hcB2 := Lib.hid (by simpa using hc0 : decide (0 < c) = false)
                go_wp2_with fail
                go_meet
                rw [hcB2.out]
                exact ⟨by simpa using M11, P11⟩
            case rest =>
              obtain ⟨M12, P12⟩ := hcut
              clear e11 f11 g11 h11 i11 j11 y11 M10 M11 P10 P11 M9 P9 HP6 nw6 n6
              have z12 := M12.out.bt.size
              have hJ12 := HE.out.but b _ wr wc hB HJr.out M12.out.bt
              have S12 := HE.out.mem b _ wc hB hJ12
              have hcw := isWrong_c Ab (some ⟨pb, po, none⟩) nb cb np cp kf wrg bs ms ps L q wc S12.1 S12.2 hLp hqn hlb.2.2
              obtain ⟨iw, hiw⟩ : ∃ iw, wrB bs ps L q = iw := ⟨_, rfl⟩
              rw [hiw] at hcw
              replace hcw := Lib.hid hcw
              have HIW := Lib.hid hiw
              have y12 := P12.out
              clear hJ12 S12 hiw
              go_upto_if 118 with (go_at_call 112; refine hcw.out.mono ?_; rintro e w13 ⟨rfl, hb13⟩)
              have M13 := Lib.hid (M12.out.later hb13)
              have P13 := Lib.hid (fun j => (hb13.cell (p := ⟨w.heap.size, j, none⟩) (by show w.heap.size < _; omega)).trans (y12 j))
              clear hcw y12 hb13
              obtain ⟨wv, hwv⟩ : ∃ wv, st.wrong + (bif iw then 1 else 0) = wv := ⟨_, rfl⟩
              go_cut [] (fun wx => Hid (Mid b wr.heap.size nb (wr.heap.size + 1 + 1) c5 g2 d2 g3 d3 #[.slice A1 L c1, .slice A2 nb c2, .slice A3 nb c3, .int .i64 st.wrong] (st.of ++ [(q : Int)]) (st.rests.set q (r - lg - (bif decide (0 < c) then kf else 0))) (st.cuts.set q (c + 1)) wv wr wx) ∧ Hid (∀ j, wx.cell? ⟨w.heap.size, j, none⟩ = #[Value.slice Ab nb cb, .int .i64 kf, .slice (some ⟨pb, po, none⟩) np cp, .int .i64 wrg][j]?))
              case first =>
                cases iw
                · obtain rfl : st.wrong = wv := by rw [← hwv]; simp
                  go_wp2_with fail
                  go_meet
                  exact ⟨M13, P13⟩
                · have hwv' : st.wrong + 1 = wv := by rw [← hwv]; simp
                  have hwb := OKW.out.wrong
                  rw [HL.out] at hwb
                  have hww : IntKind.i64.wrap (st.wrong + 1) = wv := by rw [← hwv']; exact IntWalk.i64_in _ (by omega)
                  have e13 := M13.out.blk.cell
                  have f13 := M13.out.blk.frozen
                  have g13 := own_int_get M13.out.o2 M13.out.rl hqn
                  have h13 := M13.out.o2.frozenAt q
                  have i13 := own_int_get M13.out.o3 M13.out.cl hqn
                  have j13 := M13.out.o3.frozenAt q
                  have y13 := P13.out
                  go_wp2_with fail
                  go_meet
                  exact ⟨Lib.hid (M13.out.setw wv), Lib.hid fun j => (World.cell?_setCell_other _ _ _ _ (by intro h; simp only [Addr.mk.injEq] at h; omega)).trans (y13 j)⟩
              case rest =>
                obtain ⟨M14, P14⟩ := hcut
                clear M12 P12 M13 P13
                obtain ⟨stq, hstq⟩ : ∃ stq, stS bs ps kf st q = stq := ⟨_, rfl⟩
                have hstq' : stq = ⟨st.of ++ [(q : Int)], st.rests.set q (r - lg - (bif decide (0 < c) then kf else 0)), st.cuts.set q (c + 1), wv⟩ := by
                  rw [← hstq]; unfold stS; rw [HL.out, HLG.out, HR.out, HC.out, HIW.out, hwv]
                have HST := Lib.hid hstq
                have HST' := Lib.hid hstq'
                have HWV := Lib.hid hwv
                have hlen : (st.of ++ [(q : Int)]).length = L + 1 := by rw [List.length_append, HL.out]; rfl
                have e14 := M14.out.blk.cell
                have f14 := M14.out.blk.frozen
                have o14 := M14.out.obk.cell
                have y14 := P14.out
                have z14 := M14.out.bt.size
                clear hstq hstq' hwv
                by_cases htk : wv ≤ most
                · have HT : Hid (tkS bs ps kf most st q = true) := by
                    show _ = _
                    unfold tkS; rw [HST.out, HST'.out, HL.out, HLG.out, HF.out]; simpa using htk
                  have htB : decide (wv ≤ most) = true := by simpa using htk
                  have HO14 := HBr.out
                  rw [HL.out] at HO14
                  replace HO14 := Lib.hid HO14
                  go_wp2_with fail
                  refine (HIH.out stq b (k + (swK bs ps kf most nb p st q).length) wc hB (by rw [HST'.out]; show (st.of ++ [(q : Int)]).length + p = np; have := HL.out; omega) (by rw [← HST.out]; exact OKW.out.step OK.out hrl hcl hqn (by rw [HL.out]; exact hLp) (by rw [HL.out, HLG.out]; exact HF.out)) (HE.out.but b _ wr wc hB HJr.out M14.out.bt) (by rw [HST'.out]; exact M14.out.saw (by omega)) (by rw [← HST.out]; exact hx_step HX.out HT.out hqn)).mono ?_
                  rintro e w6 (⟨rfl, hJ6, hK6⟩ | ⟨rfl, hJ6⟩)
                  · have HJ6 := Lib.hid hJ6
                    have HK6 := Lib.hid hK6
                    have HB6 := Lib.hid (hK6.blk M14.out.blk hB)
                    have e6 := HB6.out.cell
                    have f6 := HB6.out.frozen
                    have o6 := (hK6.blk M14.out.obk (by omega)).cell
                    have z6 := hK6.1
                    clear hJ6 hK6 e14 f14 o14 y14
                    go_wp2_with fail
                    go_roundw
                    case rel =>
                      have hbk := back4 (.slice A1 L c1) (.slice A2 nb c2) (.slice A3 nb c3) (.int .i64 st.wrong) HB6.out
                      refine ⟨q + 1, by omega, by go_num, Lib.hid ?_, Lib.hid ?_⟩
                      · rw [swK_yes HT.out, List.length_append, ← Nat.add_assoc, HST.out]
                        exact HE.out.but b _ w6 _ hB HJ6.out hbk.2
                      · exact HKr.out.trans (keep_back HO14.out M14.out.bt HK6.out hbk.1 hbk.2)
                    case measure => simp [intOf]; omega
                  · have HJ6 := Lib.hid hJ6
                    clear hJ6 e14 f14 o14 y14
                    go_wp2_with fail
                    go_ret
                    exact .inr ⟨rfl, HJ6.out⟩
                · have HT : Hid (tkS bs ps kf most st q = false) := by
                    show _ = _
                    unfold tkS; rw [HST.out, HST'.out, HL.out, HLG.out, HF.out]; simpa using htk
                  have htB : decide (wv ≤ most) = false := by simpa using htk
                  have HO14 := HBr.out
                  rw [HL.out] at HO14
                  replace HO14 := Lib.hid HO14
                  go_wp2_with fail
                  go_roundw
                  case rel =>
                    have hbk := back4 (.slice A1 L c1) (.slice A2 nb c2) (.slice A3 nb c3) (.int .i64 st.wrong) M14.out.blk
                    refine ⟨q + 1, by omega, by go_num, Lib.hid ?_, Lib.hid ?_⟩
                    · rw [swK_no HT.out]
                      exact HE.out.but b _ wr _ hB HJr.out (M14.out.bt.trans hbk.2)
                    · exact HKr.out.trans (but_back HO14.out M14.out.bt hbk.1 hbk.2)
                  case measure => simp [intOf]; omega
      · obtain rfl : q = nb := by omega
        have hqB : decide (((q : Nat) : Int) < q) = false := by simp
        go_wp2
        go_ret
        exact .inl ⟨rfl, HJr.out, (KeepC.of_below BX).trans HKr.out⟩

def mkC (n : Nat) : Array Value := madeCells #[.int .i64 0] n
theorem mkC_list (n : Nat) : (mkC n).toList = (List.replicate n (0 : Int)).flatMap encI := by
  unfold mkC
  rw [toList_madeCells_one]
  induction n with
  | zero => rfl
  | succ n ih => rw [List.replicate_succ, List.replicate_succ, List.flatMap_cons, ← ih]; rfl
theorem mk_ints (w : World) (n : Nat) (hn : n ≤ 1000) : (Instr.makeSlice 36 (.int .i64 n) (.int .i64 n)).run Try.prog w = .ok (.slice (some ⟨w.heap.size, 0, none⟩) n n) (w.alloc (.cells (mkC n) 3)) := by
  obtain ⟨i, hi, hz, hs, hb⟩ := info_parts int_info
  have h := run_make (P := Try.prog) w 36 3 i (.int .i64 0) Try.underlying36 hi hz .i64 .i64 n n (by omega) (Int.le_refl _) (by rw [hb]; omega) (by omega)
  simp only [Int.toNat_natCast, hs, Nat.mul_one] at h
  exact h
theorem mk_own (w : World) (n : Nat) (hn : n ≤ 1000) : (w.alloc (.cells (mkC n) 3)).ownsRow w.heap.size 3 1 (.slice (some ⟨w.heap.size, 0, none⟩) n n) n ((List.replicate n (0 : Int)).flatMap encI) := by
  rw [← mkC_list]
  exact World.ownsRow_lit w _ n (Nat.le_refl _) (by unfold maxLen; omega) (by rw [Nat.mul_one]; exact size_madeCells _ _)

end Go.Proofs.Ytdhlnlmhdacblaa
