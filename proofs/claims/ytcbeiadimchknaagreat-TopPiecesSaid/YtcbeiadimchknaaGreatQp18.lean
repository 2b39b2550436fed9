/- fewest of orders (layer 8); ask of orders (layer 8), where the order is valid and 'surely' is asked; Fewest of orders (layer 8); Example of the statements (layer 8), and what Fewest gives for it. -/
import Derived.Test.YtcbeiadimchknaaGreatQp17
import Derived.Shelf.Abstract
import Derived.Laws.EntriesVeiled
import Derived.Handy
import Derived.Deep.DrawnRows
import Derived.Deep.DeepCutAuto
import Derived.BigRegionIn
import Derived.Shelf.RegionOpen
import Derived.Maps.Own
import Derived.Maps.OwnOps
import Derived.Maps.OwnSet
import Derived.Maps.Views
import Derived.WalkArith
namespace Go.Proofs.YtcbeiadimchknaaGreat
open Go.RowKit Go.Maps
open Go.Sort (grow)
set_option linter.unusedVariables false
set_option linter.unusedSimpArgs false

theorem plL_mem {m : Nat} : ∀ {r : Nat} {p q : List Int}, q ∈ plL m r p → (∀ x ∈ p, -1 ≤ x ∧ x ≤ (m : Int) - 1) → q.length = p.length + r ∧ ∀ x ∈ q, -1 ≤ x ∧ x ≤ (m : Int) - 1
  | 0, p, q, h, hp => by
    obtain rfl : q = p := by simpa [plL] using h
    exact ⟨rfl, hp⟩
  | r + 1, p, q, h, hp => by
    unfold plL at h
    obtain ⟨i, hi, h2⟩ := List.mem_flatMap.1 h
    have hi' : i < m + 1 := List.mem_range.1 hi
    obtain ⟨h3, h4⟩ := plL_mem h2 (fun x hx => by
      rcases List.mem_append.1 hx with hx | hx
      · exact hp x hx
      · obtain rfl : x = (i : Int) - 1 := by simpa using hx
        omega)
    rw [List.length_append] at h3
    exact ⟨by simp at h3; omega, h4⟩
theorem plL_at {m r k : Nat} {q : List Int} (h : q ∈ plL m r []) (hm : m ≤ 3) : -1 ≤ iAt q k ∧ iAt q k ≤ 2 := by
  obtain ⟨-, h2⟩ := plL_mem h (fun x hx => by cases hx)
  unfold iAt
  rw [List.getD_eq_getElem?_getD]
  cases e : q[k]? with
  | none => simp
  | some x => have := h2 x (List.mem_of_getElem? e); simp only [Option.getD_some]; omega
theorem cellx2 {w : World} {g b j : Nat} {u0 u1 : Value} (h : b ≠ g) : ((w.setCell ⟨g, 0, none⟩ u0).setCell ⟨g, 1, none⟩ u1).cell? ⟨b, j, none⟩ = w.cell? ⟨b, j, none⟩ := (World.cell?_setCell_other _ _ _ _ (by intro e; cases e; exact h rfl)).trans (World.cell?_setCell_other _ _ _ _ (by intro e; cases e; exact h rfl))
def fw0 : Fw8 := ⟨false, [], fun _ => false⟩
/-- what fewest finds -/
def fwF (nss : List (List Nd8)) (ks : List Sk8) (shk : Int) (nk ns : Nat) : Fw8 := (plL ns nk []).foldl (fwS (fun p => knK nss ks shk p nk ns == 1) nk) fw0
theorem foldl_take {α β : Type} {f : β → α → β} {b : β} {l : List α} {k : Nat} {x : α} (h : l[k]? = some x) : (l.take (k + 1)).foldl f b = f ((l.take k).foldl f b) x := by
  rw [List.take_add_one, h, List.foldl_append]; rfl
set_option maxRecDepth 100000 in
set_option maxHeartbeats 3200000 in
theorem fewest8_c (yb : Nat) (A : Option Addr) (nr c : Nat) (B : Option Addr) (ns d : Nat) (C : Option Addr) (nk f : Nat) (shk : Int) (Ah : Option Addr) (ch : Nat) (hs : List Hd) (nss : List (List Nd8)) (rs : List Rt8) (ss : List Sp) (ks : List Sk8) (w : World) (hnk : 0 < nk) (HY : YdM yb A nr c B ns d C nk f shk Ah ch hs nss w) (HC : SksAt w C nk ks) (ok : Ok8 nr ns nk rs ss ks shk) (hbd : ∀ s, s < ns → (hlAt nss s).length ≤ 10000) :
    Calls Tryz.prog 67 #[.pointer (some ⟨yb, 0, none⟩), .func (.func 37) #[] #[]] w fun e w' => ∃ PA pc mo, e = .returned (.tuple #[.agg #[.slice PA (fwF nss ks shk nk ns).pl.length pc, .map mo], .bool (fwF nss ks shk nk ns).fo]) ∧ IntsAt w' PA (fwF nss ks shk nk ns).pl.length (fwF nss ks shk nk ns).pl ∧ (fwF nss ks shk nk ns).pl.length ≤ 7 ∧ ((fwF nss ks shk nk ns).fo = true → ∃ mb D, mo = some mb ∧ w'.ownsMap Tryz.prog 3 (plainElem (H := Unit) Tryz.prog 3) mb nk D ∧ KeyD8 D (fwF nss ks shk nk ns).nd) ∧ (∀ a, PA = some a → w.heap.size ≤ a.block) ∧ (∀ b, mo = some b → w.heap.size ≤ b) ∧ Below w.heap.size w w' := by
  have en1 : ∀ args w, (callFunc 83 args).run Tryz.prog w = .ok (.enter 83 args) w := enters_of Tryz.func83 (by kernel_rfl) rfl
  have kPl : Hid (∀ X g eb yx V, X.heap.size = g → w.heap.size ≤ g → Below w.heap.size w X → Blk X eb 79 #[.func (.func 37) #[] #[]] → Blk X yx 81 #[.pointer (some ⟨yb, 0, none⟩)] → FwM X g nk fw0 none V → Calls Tryz.prog 75 #[.pointer (some ⟨yb, 0, none⟩), .func (.func 83) #[] #[.pointer (some ⟨g + 1, 0, none⟩), .pointer (some ⟨g, 0, none⟩), .pointer (some ⟨eb, 0, none⟩), .pointer (some ⟨yx, 0, none⟩)], .slice none 0 0] V fun e W' => ∃ mo, e = .returned (.bool true) ∧ FwM X g nk (fwF nss ks shk nk ns) mo W') := Lib.hid (fun X g eb yx V hX hwg hBX hE hXx hM => by
    have hYX := HY.later hBX
    have hCX := HC.later hBX
    have := plans_c yb A nr c B ns d C nk f shk Ah ch 83 #[] #[.pointer (some ⟨g + 1, 0, none⟩), .pointer (some ⟨g, 0, none⟩), .pointer (some ⟨eb, 0, none⟩), .pointer (some ⟨yx, 0, none⟩)] (plL ns nk [])
      (fun O k V => ∃ mo, O = fwO g mo ∧ FwM X g nk (((plL ns nk []).take k).foldl (fwS (fun p => knK nss ks shk p nk ns == 1) nk) fw0) mo V)
      (fun O V => False) ok.sl ok.kl en1 (fun O k V V' ⟨mo, h1, h2⟩ hb => ⟨mo, h1, h2.later hb (by omega)⟩)
      (fun O k V ⟨mo, h1, h2⟩ b hb => by
        have l1 := h2.fbx.lt
        have l2 : g < V.heap.size := by omega
        rw [h1] at hb
        rcases hb with h | h | h
        · omega
        · omega
        · exact (h2.ml b h).2)
      (fun O k V ⟨mo, h1, h2⟩ => (hYX.later (h2.below.mono (by omega))).blk)
      (fun O k p V PA pc hp ⟨mo, h1, h2⟩ hP hPO => by
        refine (by simpa using fewest1_c X g eb yx yb A nr c B ns d C nk f shk Ah ch hs nss rs ss ks hX hnk hE hXx hYX hCX ok hbd _ mo PA pc p V h2 hP (fun a e => by have := hPO a e; rwa [h1] at this) (fun j _ => plL_at (List.mem_of_getElem? hp) ok.sl) : Calls Tryz.prog 83 ((#[] : Array Value).push (.slice PA nk pc) ++ #[.pointer (some ⟨g + 1, 0, none⟩), .pointer (some ⟨g, 0, none⟩), .pointer (some ⟨eb, 0, none⟩), .pointer (some ⟨yx, 0, none⟩)]) V fun e W' => e = .returned (.bool true) ∧ ∃ mo', FwM X g nk (fwS (fun p => knK nss ks shk p nk ns == 1) nk (((plL ns nk []).take k).foldl (fwS (fun p => knK nss ks shk p nk ns == 1) nk) fw0) p) mo' W' ∧ StO (fwO g mo) (fwO g mo') V W').mono ?_
        rintro e V' ⟨rfl, mo', h3, h4⟩
        exact .inl ⟨rfl, fwO g mo', ⟨mo', rfl, by rw [foldl_take hp]; exact h3⟩, by rw [h1]; exact h4⟩)
      nk 0 [] 0 (fwO g none) V none 0 (Nat.le_refl _) (by omega) ⟨rfl, fun h => absurd h (by omega)⟩ (fun a e => by cases e) ⟨none, rfl, hM⟩ (fun j q h => by simpa using h)
    refine this.mono ?_
    rintro e V' (⟨rfl, O', ⟨mo, -, h1⟩, -⟩ | ⟨-, O', h1, -⟩)
    · refine ⟨mo, rfl, ?_⟩
      rw [List.take_of_length_le (by omega)] at h1
      exact h1
    · exact h1.elim)
  obtain ⟨R, hR⟩ : ∃ R, fwF nss ks shk nk ns = R := ⟨_, rfl⟩
  rw [hR] at kPl ⊢
  clear HY HC ok hbd hR
  go_enter Tryz.func67, Tryz.ntmps67
  go_upto_region 1 with (fail)
  go_name_world X hX
  have BX := (al3 hX).1
  have zX := (al3 hX).2
  have HX0 : Hid (Blk X w.heap.size 81 #[.pointer (some ⟨yb, 0, none⟩)]) := by rw [← hX]; exact Lib.hid (((Blk.new w _ _).alloc _).alloc _)
  have HX1 : Hid (Blk X (w.heap.size + 1) 79 #[.func (.func 37) #[] #[]]) := by rw [← hX]; exact Lib.hid ((blk_new8 (by simp) _ _).alloc _)
  have HX2 : Hid (Blk X (w.heap.size + 1 + 1) 86 #[.slice none 0 0, .map none]) := by rw [← hX]; exact Lib.hid (blk_new8 (by simp) _ _)
  clear hX
  go_upto_region 3 with (fail)
  obtain ⟨g, hg⟩ : ∃ g, w.heap.size + 3 = g := ⟨_, rfl⟩
  rw [hg] at zX ⊢
  go_name_world V hV
  have zV : V.heap.size = g + 2 := by rw [← hV]; simp [zX]
  have HMV : Hid (FwM X g nk fw0 none V) := by
    rw [← hV]
    refine Lib.hid ⟨((Below.refl _ _).alloc (by omega) _).alloc (by simp; omega) _, blk_new8 (by simp [zX]) _ _, ⟨none, 0, (blk_new8 zX _ _).alloc _, ⟨rfl, fun h => absurd h (by simp [fw0])⟩, fun a e => (by cases e)⟩, by simp [fw0], fun b e => (by cases e), fun e => (by cases e)⟩
  have HKP := Lib.hid (kPl.out X g (w.heap.size + 1) w.heap.size V zX (by omega) BX HX1.out HX0.out HMV.out)
  have c0 := (HX0.out.below (w' := V) (by rw [← hV]; exact ((Below.refl _ _).alloc (by omega) _).alloc (by simp) _) HX0.out.lt).cell
  have m0 := (HX0.out.below (w' := V) (by rw [← hV]; exact ((Below.refl _ _).alloc (by omega) _).alloc (by simp) _) HX0.out.lt).lt
  have HZX := Lib.hid zX
  clear hV kPl zX
  go_upto_region 4 with (go_at_call 75; refine HKP.out.mono ?_; rintro e w3 ⟨mo, rfl, hm3⟩; have HM3 := Lib.hid hm3; clear hm3)
  clear c0 m0
  obtain ⟨PA, pc, hb1, hb2, hb3⟩ := HM3.out.bst
  have HB1 := Lib.hid hb1
  have HB2 := Lib.hid hb2
  have HB3 := Lib.hid hb3
  obtain ⟨L, hL⟩ : ∃ x, R.pl.length = x := ⟨_, rfl⟩
  rw [hL] at HB1 HB2
  have HL := Lib.hid hL
  obtain ⟨fo, hfo⟩ : ∃ x, R.fo = x := ⟨_, rfl⟩
  have HFO := Lib.hid hfo
  have HB3W := HM3.out.below
  have HXW := Lib.hid ((HX2.out.below (HB3W.mono (by have := HZX.out; omega)) HX2.out.lt))
  have lW := HM3.out.fbx.lt
  clear hb1 hb2 hb3 hL hfo HB3W
  obtain ⟨Y, hY⟩ : ∃ Y, w3.drew = Y := ⟨_, rfl⟩
  have BY : Hid (Below w3.heap.size w3 Y) := by rw [← hY]; exact Lib.hid (Below.drew (Below.refl _ _))
  have hS : (∀ j, Y.cell? ⟨g + 1, j, none⟩ = #[Value.bool fo][j]?) ∧ (∀ j, Y.cell? ⟨g, j, none⟩ = #[.slice PA L pc, .map mo][j]?) := ⟨(by have := (HM3.out.fbx.below BY.out lW).cell; rw [HFO.out] at this; exact this), (HB1.out.below BY.out HB1.out.lt).cell⟩
  refine wp_region_L (by kernel_rfl) (fun V => (∀ j, V.cell? ⟨g + 1, j, none⟩ = #[Value.bool fo][j]?) ∧ (∀ j, V.cell? ⟨g, j, none⟩ = #[.slice PA L pc, .map mo][j]?)) 99 ?_
  rw [hY]
  clear hY
  refine wpAnyL_take (i := 0) (v := ?_) rfl (by kernel_rfl) (by kernel_rfl) (by kernel_rfl) (by kernel_rfl) (fun _ _ _ h => h) hS (Or.inl ⟨by rfl, ?_⟩) ?_
  rotate_left 1
  · intro w9 hw9
    obtain ⟨s0, s1⟩ := hw9
    go_simp
    try with_reducible rfl
  try simp only [List.getElem_toArray, List.getElem_cons_zero, List.getElem_cons_succ, Act.put, List.setIfInBounds_toArray, List.set_cons_zero, List.set_cons_succ]
  refine wpAnyL_take (i := 1) (v := ?_) rfl (by kernel_rfl) (by kernel_rfl) (by kernel_rfl) (by kernel_rfl) (fun _ _ _ h => h) hS (Or.inl ⟨by rfl, ?_⟩) ?_
  rotate_left 1
  · intro w9 hw9
    obtain ⟨s0, s1⟩ := hw9
    go_simp
    try with_reducible rfl
  try simp only [List.getElem_toArray, List.getElem_cons_zero, List.getElem_cons_succ, Act.put, List.setIfInBounds_toArray, List.set_cons_zero, List.set_cons_succ]
  have HXY := Lib.hid (HXW.out.below BY.out HXW.out.lt)
  have cx := HXY.out.cell
  have lx := HXY.out.lt
  have fx := HXY.out.frozen
  refine wpAnyL_one (i := 2) (by kernel_rfl) rfl (fun K hK => ?_)
  go_simp
  have lgw : w.heap.size < g := by omega
  refine hK.out _ _ (fun _ => ⟨fun j => (cellx2 (by show g + 1 ≠ w.heap.size + 1 + 1; omega)).trans (hS.1 j), fun j => (cellx2 (by show g ≠ w.heap.size + 1 + 1; omega)).trans (hS.2 j)⟩) (fun _ => ?_)
  clear hK K
  try simp only [List.getElem_toArray, List.getElem_cons_zero, List.getElem_cons_succ, Act.put, List.setIfInBounds_toArray, List.set_cons_zero, List.set_cons_succ]
  refine wpAnyL_one (i := 3) (by kernel_rfl) rfl (fun K hK => ?_)
  go_simp
  refine hK.out _ _ (fun _ => ⟨fun j => (cellx2 (by show g + 1 ≠ w.heap.size + 1 + 1; omega)).trans (hS.1 j), fun j => (cellx2 (by show g ≠ w.heap.size + 1 + 1; omega)).trans (hS.2 j)⟩) (fun _ => ?_)
  clear hK K
  refine wpAnyL_done (by kernel_rfl) ?_ _
  clear hS cx lx fx
  obtain ⟨V2, hV2⟩ : ∃ V2, (Y.setCell ⟨w.heap.size + 1 + 1, 0, none⟩ (.slice PA L pc)).setCell ⟨w.heap.size + 1 + 1, 1, none⟩ (.map mo) = V2 := ⟨_, rfl⟩
  rw [hV2]
  have HX2 : Hid (Blk V2 (w.heap.size + 1 + 1) 86 #[.slice PA L pc, .map mo]) := by rw [← hV2]; exact Lib.hid ((HXY.out.set_ 0 _).set_ 1 _)
  have HW2 : Hid (Off (fun b => b = w.heap.size + 1 + 1) w3.heap.size w3 V2) := by rw [← hV2]; exact Lib.hid (Off.set (p := ⟨w.heap.size + 1 + 1, 1, none⟩) (Off.set (p := ⟨w.heap.size + 1 + 1, 0, none⟩) ((Off.refl (B := fun b => b = w.heap.size + 1 + 1)).then_below BY.out (Nat.le_refl _)) (Or.inl rfl) _) (Or.inl rfl) _)
  clear hV2
  have q2 := HX2.out.cell
  have l2 := HX2.out.lt
  go_wp2_with fail
  have lw3 : w.heap.size ≤ w3.heap.size := by omega
  refine bodyPost_ret (v := .tuple #[.agg #[.slice PA L pc, .map mo], .bool fo]) (by simp [results, Tryz.results67, go_sem, q2]) rfl ⟨PA, pc, mo, by rw [HL.out, HFO.out], ?_, HM3.out.len, fun e => ?_, fun a e => (by have := (HB3.out a e).1; omega), fun b e => (by have := (HM3.out.ml b e).1; omega), HW2.out.below (m := w.heap.size) (fun b e => by omega) lw3 (BX.trans (HM3.out.below.mono (by omega)))⟩
  · rw [HL.out]
    exact ints_off8 HB2.out HW2.out (Nat.le_refl _) (fun a e h => by have := (HB3.out a e).1; omega)
  · obtain ⟨mb, D, e1, e2, e3⟩ := HM3.out.mp e
    exact ⟨mb, D, e1, own_at_block e2 (HW2.out.same mb e2.lt (fun h => by have := (HM3.out.ml mb e1).1; omega)), e3⟩

end Go.Proofs.YtcbeiadimchknaaGreat

namespace Go.Proofs.YtcbeiadimchknaaGreat
open Go.RowKit Go.Maps
open Go.Sort (grow)
set_option linter.unusedVariables false
set_option linter.unusedSimpArgs false

def fwP (F : Fw8) : List Int := bif F.fo then F.pl else []
def fwE (F : Fw8) : Int := bif F.fo then 0 else 3
set_option maxRecDepth 100000 in
set_option maxHeartbeats 3200000 in
theorem ask8_c (A : Option Addr) (nr c : Nat) (B : Option Addr) (ns d : Nat) (C : Option Addr) (nk f : Nat) (shk : Int) (rs : List Rt8) (ss : List Sp) (ks : List Sk8) (w : World) (hnk : 0 < nk) (HA : RtsAt w A nr rs) (HB : SpsAt w B ns ss) (HC : SksAt w C nk ks) (ok : Ok8 nr ns nk rs ss ks shk) (F : Fw8) (hF : fwF (huL rs nr ss ns) ks shk nk ns = F) :
    Calls Tryz.prog 36 #[.agg #[.slice A nr c, .slice B ns d, .slice C nk f, .int .i64 shk], .func (.func 37) #[] #[]] w fun e w' => ∃ PA pc mo, e = .returned (.tuple #[.agg #[.slice PA (fwP F).length pc, .map mo], .int .i64 (fwE F)]) ∧ IntsAt w' PA (fwP F).length (fwP F) ∧ (fwP F).length ≤ 7 ∧ (F.fo = true → ∃ mb D, mo = some mb ∧ w'.ownsMap Tryz.prog 3 (plainElem (H := Unit) Tryz.prog 3) mb nk D ∧ KeyD8 D F.nd) ∧ Below w.heap.size w w' := by
  have kCk := Lib.hid (fun V (hV : Below w.heap.size w V) => check8_c A nr c B ns d C nk f shk rs ss ks V (HA.later hV) (HB.later hV) (HC.later hV) ok)
  have kOp := Lib.hid (fun V (hV : Below w.heap.size w V) => open8_c A nr c B ns d C nk f shk rs ss ks V (HA.later hV) (HB.later hV) ok)
  have kFe0 := fun yb Ah ch hs V (hV : Below w.heap.size w V) (hY : YdM yb A nr c B ns d C nk f shk Ah ch hs (huL rs nr ss ns) V) => fewest8_c yb A nr c B ns d C nk f shk Ah ch hs (huL rs nr ss ns) rs ss ks V hnk hY (HC.later hV) ok (fun s h => nS_len ok h)
  rw [hF] at kFe0
  have kFe := Lib.hid kFe0
  clear HA HB HC ok hF kFe0
  obtain ⟨fo, pl, nd⟩ := F
  obtain ⟨L, hL⟩ : ∃ x, pl.length = x := ⟨_, rfl⟩
  simp only [hL] at kFe
  have HL := Lib.hid hL
  clear hL
  cases fo
  case false =>
    simp only [fwP, fwE, cond_false, List.length_nil]
    go_enter Tryz.func36, Tryz.ntmps36
    go_upto_region 1 with (fail)
    go_name_world X hX
    have BX := (al2 hX).1
    have HO0 : Hid (Blk X w.heap.size 40 #[.slice A nr c, .slice B ns d, .slice C nk f, .int .i64 shk]) := by rw [← hX]; exact Lib.hid ((Blk.new w _ _).alloc _)
    have HR0 : Hid (Blk X (w.heap.size + 1) 86 #[.slice none 0 0, .map none]) := by rw [← hX]; exact Lib.hid (blk_new8 (by simp) _ _)
    have q0 := HO0.out.cell
    have l0 := HO0.out.lt
    have zX := BX.size
    have zX2 : X.heap.size = w.heap.size + 2 := (al2 hX).2
    have HZ2 := Lib.hid zX2
    clear hX zX2
    go_upto_region 5 with (first | (go_at_call 30; refine (kCk.out X BX).mono ?_; rintro e w1 ⟨rfl, hb1⟩; have HO1 := Lib.hid (HO0.out.below hb1 l0); have HR1 := Lib.hid (HR0.out.below hb1 HR0.out.lt); have q1 := HO1.out.cell; have l1 := HO1.out.lt; have B1 := BX.trans (hb1.mono zX); have z1 := hb1.size; clear hb1 q0 l0) | (go_at_call 34; refine (kOp.out _ B1).mono ?_; rintro e w2 ⟨yb, Ah, ch, hs, rfl, hyb, hyd, hb2⟩; have z2 := hb2.size; have HYD := Lib.hid hyd; have HR2 := Lib.hid (HR1.out.below hb2 HR1.out.lt); have B2 := B1.trans (hb2.mono B1.size); clear hb2 hyd q1 l1) | (go_at_call 67; refine (kFe.out yb Ah ch hs w2 B2 HYD.out).mono ?_; rintro e w3 ⟨PA, pc, mo, rfl, hi3, hl3, hm3, ha3, hc3, hb3⟩; have HA3 := Lib.hid ha3; have HC3 := Lib.hid hc3; have HI3 := Lib.hid hi3; have HM3 := Lib.hid hm3; have HL3 := Lib.hid hl3; have HR3 := Lib.hid (HR2.out.below hb3 HR2.out.lt); have B3 := B2.trans (hb3.mono B2.size); clear hi3 hl3 hm3 ha3 hc3 hb3))
    go_name_world X4 hX4
    have HB4 : Hid (Below w.heap.size w X4) := by rw [← hX4]; exact Lib.hid (B3.alloc B3.size _)
    have HR4 : Hid (Blk X4 (w.heap.size + 1) 86 #[.slice none 0 0, .map none]) := by rw [← hX4]; exact Lib.hid (HR3.out.alloc _)
    have HT4 : Hid (Blk X4 w3.heap.size 86 #[.slice PA L pc, .map mo]) := by rw [← hX4]; exact Lib.hid (Blk.new _ _ _)
    have HB34 : Hid (Below w3.heap.size w3 X4) := by rw [← hX4]; exact Lib.hid ((Below.refl _ _).alloc (Nat.le_refl _) _)
    have ct := HT4.out.cell
    have lt4 := HT4.out.lt
    have cr := HR4.out.cell
    have lr := HR4.out.lt
    have fr := HR4.out.frozen
    have z3 := B3.size
    clear hX4
    go_wp2_with fail
    have lrw : w.heap.size + 1 < w2.heap.size := by have := HZ2.out; omega
    obtain ⟨V, hV⟩ : ∃ V, (X4.setCell ⟨w.heap.size + 1, 0, none⟩ (.slice none 0 0)).setCell ⟨w.heap.size + 1, 1, none⟩ (.map none) = V := ⟨_, rfl⟩
    rw [hV]
    have HRV : Hid (Blk V (w.heap.size + 1) 86 #[.slice none 0 0, .map none]) := by rw [← hV]; exact Lib.hid ((HR4.out.set_ 0 _).set_ 1 _)
    have HW2 : Hid (Off (fun b => b = w.heap.size + 1) X4.heap.size X4 V) := by rw [← hV]; exact Lib.hid (Off.set (p := ⟨w.heap.size + 1, 1, none⟩) (Off.set (p := ⟨w.heap.size + 1, 0, none⟩) (Off.refl (B := fun b => b = w.heap.size + 1)) (Or.inl rfl) _) (Or.inl rfl) _)
    clear hV
    have q := HRV.out.cell
    exact bodyPost_ret (v := .tuple #[.agg #[.slice none 0 0, .map none], .int .i64 3]) (by simp [results, Tryz.results36, go_sem, q]) rfl ⟨none, 0, none, rfl, ⟨rfl, fun h => absurd h (by omega)⟩, by omega, fun e => (by cases e), HW2.out.below (m := w.heap.size) (fun b e => by omega) HB4.out.size HB4.out⟩
  case true =>
    simp only [fwP, fwE, cond_true, HL.out]
    go_enter Tryz.func36, Tryz.ntmps36
    go_upto_region 1 with (fail)
    go_name_world X hX
    have BX := (al2 hX).1
    have HO0 : Hid (Blk X w.heap.size 40 #[.slice A nr c, .slice B ns d, .slice C nk f, .int .i64 shk]) := by rw [← hX]; exact Lib.hid ((Blk.new w _ _).alloc _)
    have HR0 : Hid (Blk X (w.heap.size + 1) 86 #[.slice none 0 0, .map none]) := by rw [← hX]; exact Lib.hid (blk_new8 (by simp) _ _)
    have q0 := HO0.out.cell
    have l0 := HO0.out.lt
    have zX := BX.size
    have zX2 : X.heap.size = w.heap.size + 2 := (al2 hX).2
    have HZ2 := Lib.hid zX2
    clear hX zX2
    go_upto_region 5 with (first | (go_at_call 30; refine (kCk.out X BX).mono ?_; rintro e w1 ⟨rfl, hb1⟩; have HO1 := Lib.hid (HO0.out.below hb1 l0); have HR1 := Lib.hid (HR0.out.below hb1 HR0.out.lt); have q1 := HO1.out.cell; have l1 := HO1.out.lt; have B1 := BX.trans (hb1.mono zX); have z1 := hb1.size; clear hb1 q0 l0) | (go_at_call 34; refine (kOp.out _ B1).mono ?_; rintro e w2 ⟨yb, Ah, ch, hs, rfl, hyb, hyd, hb2⟩; have z2 := hb2.size; have HYD := Lib.hid hyd; have HR2 := Lib.hid (HR1.out.below hb2 HR1.out.lt); have B2 := B1.trans (hb2.mono B1.size); clear hb2 hyd q1 l1) | (go_at_call 67; refine (kFe.out yb Ah ch hs w2 B2 HYD.out).mono ?_; rintro e w3 ⟨PA, pc, mo, rfl, hi3, hl3, hm3, ha3, hc3, hb3⟩; have HA3 := Lib.hid ha3; have HC3 := Lib.hid hc3; have HI3 := Lib.hid hi3; have HM3 := Lib.hid hm3; have HL3 := Lib.hid hl3; have HR3 := Lib.hid (HR2.out.below hb3 HR2.out.lt); have B3 := B2.trans (hb3.mono B2.size); clear hi3 hl3 hm3 ha3 hc3 hb3))
    go_name_world X4 hX4
    have HB4 : Hid (Below w.heap.size w X4) := by rw [← hX4]; exact Lib.hid (B3.alloc B3.size _)
    have HR4 : Hid (Blk X4 (w.heap.size + 1) 86 #[.slice none 0 0, .map none]) := by rw [← hX4]; exact Lib.hid (HR3.out.alloc _)
    have HT4 : Hid (Blk X4 w3.heap.size 86 #[.slice PA L pc, .map mo]) := by rw [← hX4]; exact Lib.hid (Blk.new _ _ _)
    have HB34 : Hid (Below w3.heap.size w3 X4) := by rw [← hX4]; exact Lib.hid ((Below.refl _ _).alloc (Nat.le_refl _) _)
    have ct := HT4.out.cell
    have lt4 := HT4.out.lt
    have cr := HR4.out.cell
    have lr := HR4.out.lt
    have fr := HR4.out.frozen
    have z3 := B3.size
    clear hX4
    go_wp2_with fail
    have lrw : w.heap.size + 1 < w2.heap.size := by have := HZ2.out; omega
    obtain ⟨V, hV⟩ : ∃ V, (X4.setCell ⟨w.heap.size + 1, 0, none⟩ (.slice PA L pc)).setCell ⟨w.heap.size + 1, 1, none⟩ (.map mo) = V := ⟨_, rfl⟩
    rw [hV]
    have HRV : Hid (Blk V (w.heap.size + 1) 86 #[.slice PA L pc, .map mo]) := by rw [← hV]; exact Lib.hid ((HR4.out.set_ 0 _).set_ 1 _)
    have HW2 : Hid (Off (fun b => b = w.heap.size + 1) X4.heap.size X4 V) := by rw [← hV]; exact Lib.hid (Off.set (p := ⟨w.heap.size + 1, 1, none⟩) (Off.set (p := ⟨w.heap.size + 1, 0, none⟩) (Off.refl (B := fun b => b = w.heap.size + 1)) (Or.inl rfl) _) (Or.inl rfl) _)
    clear hV
    have q := HRV.out.cell
    have hle := HL3.out
    refine bodyPost_ret (v := .tuple #[.agg #[.slice PA L pc, .map mo], .int .i64 0]) (by simp [results, Tryz.results36, go_sem, q]) rfl ⟨PA, pc, mo, rfl, ?_, by first | exact hle | omega, fun _ => ?_, HW2.out.below (m := w.heap.size) (fun b e => by omega) HB4.out.size HB4.out⟩
    · exact ints_off8 (HI3.out.later HB34.out) HW2.out (Nat.le_refl _) (fun a e h => by have := HA3.out a e; omega)
    · obtain ⟨mb, D, e1, e2, e3⟩ := HM3.out (by first | trivial | rfl)
      have e4 := own_at_block e2 (HB34.out.block _ e2.lt)
      exact ⟨mb, D, e1, own_at_block e4 (HW2.out.same mb e4.lt (fun h => by have := HC3.out mb e1; omega)), e3⟩

end Go.Proofs.YtcbeiadimchknaaGreat

namespace Go.Proofs.YtcbeiadimchknaaGreat
open Go.RowKit Go.Maps
open Go.Sort (grow)
set_option linter.unusedVariables false
set_option linter.unusedSimpArgs false

set_option maxRecDepth 100000 in
set_option maxHeartbeats 3200000 in
theorem Fewest8_c (A : Option Addr) (nr c : Nat) (B : Option Addr) (ns d : Nat) (C : Option Addr) (nk f : Nat) (shk : Int) (rs : List Rt8) (ss : List Sp) (ks : List Sk8) (w : World) (hnk : 0 < nk) (HA : RtsAt w A nr rs) (HB : SpsAt w B ns ss) (HC : SksAt w C nk ks) (ok : Ok8 nr ns nk rs ss ks shk) (F : Fw8) (hF : fwF (huL rs nr ss ns) ks shk nk ns = F) :
    Calls Tryz.prog 13 #[.agg #[.slice A nr c, .slice B ns d, .slice C nk f, .int .i64 shk]] w fun e w' => e = .returned (.tuple #[.int .i64 (usK (fwP F) (fwP F).length : Nat), .int .i64 (fwE F)]) ∧ Below w.heap.size w w' := by
  have kAs := Lib.hid (fun V (hV : Below w.heap.size w V) => ask8_c A nr c B ns d C nk f shk rs ss ks V hnk (HA.later hV) (HB.later hV) (HC.later hV) ok F hF)
  clear HA HB HC ok hF
  obtain ⟨p, hp⟩ : ∃ x, fwP F = x := ⟨_, rfl⟩
  rw [hp] at kAs ⊢
  obtain ⟨E, hE⟩ : ∃ x, fwE F = x := ⟨_, rfl⟩
  rw [hE] at kAs ⊢
  obtain ⟨L, hL⟩ : ∃ x, p.length = x := ⟨_, rfl⟩
  rw [hL] at kAs ⊢
  clear hp hE hL
  obtain ⟨u, hu⟩ : ∃ x, usK p L = x := ⟨_, rfl⟩
  have HU := Lib.hid hu
  rw [hu]
  clear hu
  go_enter Tryz.func13, Tryz.ntmps13
  go_upto_region 1 with (fail)
  go_name_world X hX
  have BX := (al1 hX).1
  have HO0 : Hid (Blk X w.heap.size 40 #[.slice A nr c, .slice B ns d, .slice C nk f, .int .i64 shk]) := by rw [← hX]; exact Lib.hid (Blk.new w _ _)
  have q0 := HO0.out.cell
  have l0 := HO0.out.lt
  clear hX
  go_upto_region 2 with (go_at_call 36; refine (kAs.out X BX).mono ?_; rintro e w1 ⟨PA, pc, mo, rfl, hi1, hl1, -, hb1⟩; have HI1 := Lib.hid hi1; have HL1 := Lib.hid hl1; have B1 := BX.trans (hb1.mono BX.size); clear hi1 hl1 hb1 q0 l0)
  go_name_world X4 hX4
  have HB4 : Hid (Below w.heap.size w X4) := by rw [← hX4]; exact Lib.hid (B1.alloc B1.size _)
  have HT4 : Hid (Blk X4 w1.heap.size 86 #[.slice PA L pc, .map mo]) := by rw [← hX4]; exact Lib.hid (Blk.new _ _ _)
  have HI4 : Hid (IntsAt X4 PA L p) := by rw [← hX4]; exact Lib.hid (HI1.out.later (by (repeat first | with_reducible assumption | with_reducible exact Below.refl _ _ | (with_reducible refine Below.alloc ?_ ?side _; case side => (first | omega | (with_reducible exact Below.size (by assumption)) | (simp; done) | (simp; omega))) | (with_reducible refine Below.setCell ?_ ?side _; case side => (first | omega | (with_reducible exact Below.size (by assumption)) | (simp; done) | (simp; omega))) | with_reducible refine Below.drew ?_ | with_reducible refine below_drewN ?_ _ | (with_reducible refine below_step (by assumption) ?side ?_; case side => (first | omega | (with_reducible exact Below.size (by assumption)) | (simp; done) | (simp; omega))))))
  have hle := HL1.out
  have kU := used8_c PA L pc p X4 (by omega) HI4.out
  rw [HU.out] at kU
  have KU := Lib.hid kU
  have ct := HT4.out.cell
  have lt4 := HT4.out.lt
  clear hX4 kU
  go_wp2_with (go_at_call 38; refine KU.out.mono ?_; rintro e w' ⟨rfl, rfl⟩)
  exact bodyPost_ret (v := .tuple #[.int .i64 u, .int .i64 E]) (by simp [results, Tryz.results13, go_sem]) rfl ⟨rfl, HB4.out⟩

end Go.Proofs.YtcbeiadimchknaaGreat

namespace Go.Proofs.YtcbeiadimchknaaGreat
open Go.RowKit
open Go.Sort (grow)
set_option linter.unusedVariables false
set_option linter.unusedSimpArgs false

def exR8 : List Rt8 := [⟨0, 10, 30⟩, ⟨200, 12, 50⟩, ⟨500, 14, 70⟩]
def exS8 : List Sp := [⟨150, 210⟩, ⟨600, 600⟩]
def exK8 : List Sk8 := [⟨12, 30, 31⟩, ⟨12, 25, 25⟩, ⟨14, 40, 42⟩, ⟨14, 29, 30⟩, ⟨14, 10, 10⟩]
theorem ex8_hu : huL exR8 3 exS8 2 = [[⟨10, 30⟩, ⟨12, 50⟩], [⟨14, 70⟩]] := by decide +kernel
theorem ex8_few : (fwF (huL exR8 3 exS8 2) exK8 1 5 2).fo = true ∧ (usK (fwF (huL exR8 3 exS8 2) exK8 1 5 2).pl (fwF (huL exR8 3 exS8 2) exK8 1 5 2).pl.length) = 4 := by
  rw [ex8_hu]
  decide +kernel
theorem ex8_ok : Ok8 3 2 5 exR8 exS8 exK8 1 := by
  refine ⟨by omega, by omega, by omega, by omega, ?_, ?_, ?_, ?_⟩
  · intro k hk
    have : k = 0 ∨ k = 1 ∨ k = 2 := by omega
    rcases this with rfl | rfl | rfl <;> decide
  · intro k hk
    have : k = 0 ∨ k = 1 := by omega
    rcases this with rfl | rfl <;> decide
  · intro k hk
    have : k = 0 ∨ k = 1 := by omega
    rcases this with rfl | rfl <;> decide
  · intro k hk
    have : k = 0 ∨ k = 1 ∨ k = 2 ∨ k = 3 ∨ k = 4 := by omega
    rcases this with rfl | rfl | rfl | rfl | rfl <;> decide
theorem Fewest8_ex (A : Option Addr) (B : Option Addr) (C : Option Addr) (w : World) (HA : RtsAt w A 3 exR8) (HB : SpsAt w B 2 exS8) (HC : SksAt w C 5 exK8) :
    Calls Tryz.prog 13 #[.agg #[.slice A 3 3, .slice B 2 2, .slice C 5 5, .int .i64 1]] w fun e w' => e = .returned (.tuple #[.int .i64 4, .int .i64 0]) ∧ Below w.heap.size w w' := by
  have := Fewest8_c A 3 3 B 2 2 C 5 5 1 exR8 exS8 exK8 w (by omega) HA HB HC ex8_ok _ rfl
  obtain ⟨h1, h2⟩ := ex8_few
  unfold fwP fwE at this
  rw [h1, cond_true, cond_true, h2] at this
  exact this
set_option maxRecDepth 100000 in
set_option maxHeartbeats 1600000 in
theorem Example8_c (w : World) :
    Calls Tryz.prog 22 #[] w fun e w' => ∃ A B C, e = .returned (.agg #[.slice A 3 3, .slice B 2 2, .slice C 5 5, .int .i64 1]) ∧ RtsAt w' A 3 exR8 ∧ SpsAt w' B 2 exS8 ∧ SksAt w' C 5 exK8 ∧ Below w.heap.size w w' := by
  go_enter Tryz.func22, Tryz.ntmps22
  go_wp2_with fail
  have hR : ∀ W : World, W.heap.size = w.heap.size + 1 → RtsAt (W.alloc (.cells #[.int .i64 0, .int .i64 10, .int .i64 30, .int .i64 200, .int .i64 12, .int .i64 50, .int .i64 500, .int .i64 14, .int .i64 70] 75)) (some ⟨w.heap.size + 1, 0, none⟩) 3 exR8 := fun W hW => (show SlAt _ _ _ _ _ _ _ from sl_new encR8_len hW rfl rfl)
  have hS : ∀ W : World, W.heap.size = w.heap.size + 1 + 1 → SpsAt (W.alloc (.cells #[.int .i64 150, .int .i64 210, .int .i64 600, .int .i64 600] 34)) (some ⟨w.heap.size + 1 + 1, 0, none⟩) 2 exS8 := fun W hW => sps_iff.2 (sl_new encS_len hW rfl rfl)
  have hK : ∀ W : World, W.heap.size = w.heap.size + 1 + 1 + 1 → SksAt (W.alloc (.cells #[.int .i64 12, .int .i64 30, .int .i64 31, .int .i64 12, .int .i64 25, .int .i64 25, .int .i64 14, .int .i64 40, .int .i64 42, .int .i64 14, .int .i64 29, .int .i64 30, .int .i64 14, .int .i64 10, .int .i64 10] 77)) (some ⟨w.heap.size + 1 + 1 + 1, 0, none⟩) 5 exK8 := fun W hW => (show SlAt _ _ _ _ _ _ _ from sl_new encK8_len hW rfl rfl)
  have hr : ∀ (o1 o2 o3 : Obj) j, ((((w.alloc (.cells #[.slice (some ⟨w.heap.size + 1, 0, none⟩) 3 3, .slice (some ⟨w.heap.size + 1 + 1, 0, none⟩) 2 2, .slice (some ⟨w.heap.size + 1 + 1 + 1, 0, none⟩) 5 5, .int .i64 1] 40)).alloc o1).alloc o2).alloc o3).cell? ⟨w.heap.size, j, none⟩ = #[Value.slice (some ⟨w.heap.size + 1, 0, none⟩) 3 3, .slice (some ⟨w.heap.size + 1 + 1, 0, none⟩) 2 2, .slice (some ⟨w.heap.size + 1 + 1 + 1, 0, none⟩) 5 5, .int .i64 1][j]? := fun o1 o2 o3 j => ((((Blk.new w _ _).alloc o1).alloc o2).alloc o3).cell j
  have hr0 := hr (.cells #[.int .i64 0, .int .i64 10, .int .i64 30, .int .i64 200, .int .i64 12, .int .i64 50, .int .i64 500, .int .i64 14, .int .i64 70] 75) (.cells #[.int .i64 150, .int .i64 210, .int .i64 600, .int .i64 600] 34) (.cells #[.int .i64 12, .int .i64 30, .int .i64 31, .int .i64 12, .int .i64 25, .int .i64 25, .int .i64 14, .int .i64 40, .int .i64 42, .int .i64 14, .int .i64 29, .int .i64 30, .int .i64 14, .int .i64 10, .int .i64 10] 77)
  refine bodyPost_ret (v := .agg #[.slice (some ⟨w.heap.size + 1, 0, none⟩) 3 3, .slice (some ⟨w.heap.size + 1 + 1, 0, none⟩) 2 2, .slice (some ⟨w.heap.size + 1 + 1 + 1, 0, none⟩) 5 5, .int .i64 1]) (by simp [results, Tryz.results22, go_sem, hr0]) rfl ⟨_, _, _, rfl, ?_, ?_, ?_, by (repeat first | with_reducible assumption | with_reducible exact Below.refl _ _ | (with_reducible refine Below.alloc ?_ ?side _; case side => (first | omega | (with_reducible exact Below.size (by assumption)) | (simp; done) | (simp; omega))) | (with_reducible refine Below.setCell ?_ ?side _; case side => (first | omega | (with_reducible exact Below.size (by assumption)) | (simp; done) | (simp; omega))) | with_reducible refine Below.drew ?_ | with_reducible refine below_drewN ?_ _ | (with_reducible refine below_step (by assumption) ?side ?_; case side => (first | omega | (with_reducible exact Below.size (by assumption)) | (simp; done) | (simp; omega))))⟩
  · exact ((hR _ (by simp)).later (Below.alloc (Below.refl _ _) (Nat.le_refl _) _)).later (Below.alloc (Below.refl _ _) (Nat.le_refl _) _)
  · exact (hS _ (by simp)).later (Below.alloc (Below.refl _ _) (Nat.le_refl _) _)
  · exact hK _ (by simp)

end Go.Proofs.YtcbeiadimchknaaGreat
