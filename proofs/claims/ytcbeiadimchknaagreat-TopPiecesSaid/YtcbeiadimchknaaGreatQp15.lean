/- Makes of orders (layer 8), of a plan of the order; slices.Clone of stocks and of numbers (layer 8); Buy of orders (layer 8); Buy of orders (layer 8): the search. -/
import Derived.Test.YtcbeiadimchknaaGreatQp14
import Derived.Test.YtcbeiadimchknaaGreatQp05
import Derived.Shelf.Abstract
import Derived.Laws.EntriesVeiled
import Derived.Handy
import Derived.Deep.DrawnRows
import Derived.Deep.DeepCutAuto
import Derived.Test.YtcbeiadimchknaaGreatQp03
import Derived.Test.YtcbeiadimchknaaGreatQp08
import Derived.Test.YtcbeiadimchknaaGreatQp09
import Derived.BigRegionIn
import Derived.Shelf.RegionOpen
namespace Go.Proofs.YtcbeiadimchknaaGreat
open Go.RowKit
open Go.Sort (grow)
set_option linter.unusedVariables false
set_option linter.unusedSimpArgs false

set_option maxHeartbeats 800000 in
theorem strange8_c (bx : Nat) (A : Option Addr) (nr c : Nat) (B : Option Addr) (ns d : Nat) (C : Option Addr) (nk f : Nat) (shk x : Int) (w : World) (hns : ns ≤ 3) (hx : -1 ≤ x ∧ x < ns) (HX : Blk w bx 40 #[.slice A nr c, .slice B ns d, .slice C nk f, .int .i64 shk]) :
    Calls Tryz.prog 31 #[.int .i64 x, .pointer (some ⟨bx, 0, none⟩)] w fun e w' => e = .returned (.bool false) ∧ w = w' := by
  have hw : wn x (-1) ((ns : Int) - 1) = true := wn_true.2 (by omega)
  have kW := Lib.hid (fun V => by have := within8_c x (-1) ((ns : Int) - 1) V; rw [hw] at this; exact this)
  have v1 : IntKind.i64.wrap ((ns : Int) - 1) = (ns : Int) - 1 := IntWalk.i64_in _ (by omega)
  have q0 := HX.cell
  have l0 := HX.lt
  clear HX hw hx
  go_enter Tryz.func31, Tryz.ntmps31
  go_wp2_with (go_at_call 32; refine (kW.out _).mono ?_; rintro e w' ⟨rfl, rfl⟩)
  go_ret
  exact ⟨rfl, rfl⟩
set_option maxHeartbeats 400000 in
theorem indexFunc8I_c (A : Option Addr) (n c g : Nat) (fst cap : Array Value) (xs : List Int) (w : World) (hn : n ≤ 40) (HX : IntsAt w A n xs)
    (HE : ∀ args w, (callFunc g args).run Tryz.prog w = .ok (.enter g args) w)
    (HF : ∀ k, k < n → Calls Tryz.prog g (fst.push (.int .i64 (iAt xs k)) ++ cap) w fun e w'' => e = .returned (.bool false) ∧ w = w'') :
    Calls Tryz.prog 64 #[.slice A n c, .func (.func g) fst cap] w fun e w' => e = .returned (.int .i64 (-1)) ∧ w = w' := by
  have HFI := Lib.hid HF
  have HXI := Lib.hid HX
  clear HF HX
  go_enter Tryz.func64, Tryz.ntmps64
  go_wp2
  go_loopw [8] (fun i (wr : World) => ∃ k : Nat, k ≤ n ∧ i = .int .i64 k ∧ wr = w) (fun i _ => n - (intOf i).toNat)
  case atStart => exact ⟨0, by omega, rfl, rfl⟩
  case round =>
    obtain ⟨k, hk, rfl, rfl⟩ := hrel
    by_cases hlt : k < n
    · obtain ⟨bp, op, rfl, hbp, x0⟩ := HXI.out.get hlt
      have hB : decide ((k : Int) < n) = true := decide_eq_true (by omega)
      go_wp2_with fail
      refine (HFI.out k hlt).mono ?_
      rintro e w1 ⟨rfl, rfl⟩
      go_wp2_with fail
      go_roundw
      case rel => exact ⟨k + 1, by omega, by go_num, trivial⟩
      case measure => simp [intOf]; omega
    · obtain rfl : n = k := by omega
      have hB : decide (((n : Nat) : Int) < n) = false := decide_eq_false (by omega)
      go_wp2_with fail
      go_ret
      exact ⟨rfl, rfl⟩
set_option maxHeartbeats 400000 in
theorem containsFunc8I_c (A : Option Addr) (n c g : Nat) (fst cap : Array Value) (xs : List Int) (w : World) (hn : n ≤ 40) (HX : IntsAt w A n xs)
    (HE : ∀ args w, (callFunc g args).run Tryz.prog w = .ok (.enter g args) w)
    (HF : ∀ k, k < n → Calls Tryz.prog g (fst.push (.int .i64 (iAt xs k)) ++ cap) w fun e w'' => e = .returned (.bool false) ∧ w = w'') :
    Calls Tryz.prog 33 #[.slice A n c, .func (.func g) fst cap] w fun e w' => e = .returned (.bool false) ∧ w = w' := by
  have HC := Lib.hid (indexFunc8I_c A n c g fst cap xs w hn HX HE HF)
  clear HF HX
  go_enter Tryz.func33, Tryz.ntmps33
  go_wp2_with fail
  refine HC.out.mono ?_
  rintro e w1 ⟨rfl, rfl⟩
  go_wp2_with fail
  go_ret
  exact ⟨rfl, rfl⟩
set_option maxRecDepth 100000 in
set_option maxHeartbeats 1600000 in
theorem Makes8_c (A : Option Addr) (nr c : Nat) (B : Option Addr) (ns d : Nat) (C : Option Addr) (nk f : Nat) (shk : Int) (rs : List Rt8) (ss : List Sp) (ks : List Sk8) (P : Option Addr) (cp : Nat) (pl : List Int) (w : World) (HA : RtsAt w A nr rs) (HB : SpsAt w B ns ss) (HC : SksAt w C nk ks) (HP : IntsAt w P nk pl) (ok : Ok8 nr ns nk rs ss ks shk) (hp : ∀ k, k < nk → -1 ≤ iAt pl k ∧ iAt pl k < ns) :
    Calls Tryz.prog 12 #[.agg #[.slice A nr c, .slice B ns d, .slice C nk f, .int .i64 shk], .slice P nk cp] w fun e w' => e = .returned (.tuple #[.int .i64 (knK (huL rs nr ss ns) ks shk pl nk ns), .int .i64 0]) ∧ Below w.heap.size w w' := by
  have en1 : ∀ args w, (callFunc 31 args).run Tryz.prog w = .ok (.enter 31 args) w := enters_of Tryz.func31 (by kernel_rfl) rfl
  have h2 := ok.sl
  have h3 := ok.kl
  have kCk := Lib.hid (fun V (hV : Below w.heap.size w V) => check8_c A nr c B ns d C nk f shk rs ss ks V (HA.later hV) (HB.later hV) (HC.later hV) ok)
  have kOp := Lib.hid (fun V (hV : Below w.heap.size w V) => open8_c A nr c B ns d C nk f shk rs ss ks V (HA.later hV) (HB.later hV) ok)
  have kKn := Lib.hid (fun yb Ah ch hs V (hV : Below w.heap.size w V) (hy : YdM yb A nr c B ns d C nk f shk Ah ch hs (huL rs nr ss ns) V) => known8_c yb A nr c B ns d C nk f shk Ah ch hs (huL rs nr ss ns) rs ss ks P cp pl V hy (HC.later hV) (HP.later hV) ok (fun s hs => nS_len ok hs))
  have kCo := Lib.hid (fun bx V (hV : Below w.heap.size w V) (hX : Blk V bx 40 #[.slice A nr c, .slice B ns d, .slice C nk f, .int .i64 shk]) => containsFunc8I_c P nk cp 31 #[] #[.pointer (some ⟨bx, 0, none⟩)] pl V (by omega) (HP.later hV) en1 (fun k hk => by simpa using strange8_c bx A nr c B ns d C nk f shk (iAt pl k) V h2 (hp k hk) hX))
  obtain ⟨r, hr⟩ : ∃ r, knK (huL rs nr ss ns) ks shk pl nk ns = r := ⟨_, rfl⟩
  rw [hr] at kKn ⊢
  have e0 : ((nk : Int) != nk) = false := by simp
  clear HA HB HC HP ok en1 hr hp
  go_enter Tryz.func12, Tryz.ntmps12
  go_upto_region 1 with (fail)
  go_name_world X hX
  have BX := (al1 hX).1
  have zX := BX.size
  have HO0 : Hid (Blk X w.heap.size 40 #[.slice A nr c, .slice B ns d, .slice C nk f, .int .i64 shk]) := by rw [← hX]; exact Lib.hid (Blk.new w _ _)
  have q0 := HO0.out.cell
  have l0 := HO0.out.lt
  clear hX
  go_wp2_with (first | (go_at_call 30; refine (kCk.out X BX).mono ?_; rintro e w1 ⟨rfl, hb1⟩; have HO1 := Lib.hid (HO0.out.below hb1 l0); have q1 := HO1.out.cell; have l1 := HO1.out.lt; have B1 := BX.trans (hb1.mono zX); clear hb1 q0 l0) | (go_at_call 33; refine (kCo.out w.heap.size w1 B1 HO1.out).mono ?_; rintro e w' ⟨rfl, rfl⟩) | (go_at_call 34; refine (kOp.out _ B1).mono ?_; rintro e w2 ⟨yb, Ah, ch, hs, rfl, hyb, hyd, hb2⟩; have HYD := Lib.hid hyd; have B2 := B1.trans (hb2.mono B1.size); clear hb2 hyd) | (go_at_call 35; refine (kKn.out yb Ah ch hs w2 B2 HYD.out).mono ?_; rintro e w3 ⟨rfl, hb3⟩; have B3 := Lib.hid (B2.trans (hb3.mono B2.size)); clear hb3))
  exact bodyPost_ret (v := .tuple #[.int .i64 r, .int .i64 0]) (by simp [results, Tryz.results12, go_sem]) rfl ⟨rfl, B3.out⟩

end Go.Proofs.YtcbeiadimchknaaGreat

namespace Go.Proofs.YtcbeiadimchknaaGreat
open Go.RowKit
open Go.Sort (grow)
set_option linter.unusedVariables false
set_option linter.unusedSimpArgs false

theorem eql_nil8 {P : Program} {a : Option Addr} {n c : Nat} (w : World) {t : TypeId} (e : TypeId) (h : P.underlying t = some (.slice e)) : (binOp .eql t (.slice a n c) (.slice none 0 0)).run P w = .ok (.bool a.isNone) w := by
  simp only [binOp]
  simp [Op.equal, Op.maxDepth, Lib.run_equalIn_slice_nil w 9999 t e a n c 0 0 h]
theorem skE8 : ElemT Tryz.prog 38 77 3 24 := by
  obtain ⟨i0, hi0, hz0, hz1, hz2⟩ := info_parts (P := Tryz.prog) (show (Tryz.prog.info? 77).map (fun i => (i.zero, i.size, i.bytes)) = some (some (.agg #[.int .i64 0, .int .i64 0, .int .i64 0]), 3, 24) by kernel_rfl)
  exact ⟨Tryz.underlying38, ⟨i0, _, hi0, hz0, hz1, hz2, rfl⟩, by omega, by omega⟩
set_option maxRecDepth 100000 in
set_option maxHeartbeats 800000 in
theorem cloneK8_c (A : Option Addr) (n c : Nat) (ks : List Sk8) (w : World) (hn : 0 < n) (hn2 : n ≤ 40) (HA : SksAt w A n ks) :
    Calls Tryz.prog 49 #[.slice A n c] w fun e w' => ∃ g c', e = .returned (.slice (some ⟨g, 0, none⟩) n c') ∧ w'.ownsRow w.heap.size 77 3 (.slice (some ⟨g, 0, none⟩) n c') n (ks.flatMap encK8) ∧ Below w.heap.size w w' := by
  obtain ⟨b, o, rfl, hb, -⟩ := HA.2 (by omega)
  have HAI := Lib.hid HA
  have hnil : ∀ w, (binOp .eql 38 (.slice (some ⟨b, o, none⟩) n c) (.slice none 0 0)).run Tryz.prog w = .ok (.bool false) w := fun w => eql_nil8 w _ Tryz.underlying38
  clear HA
  go_enter Tryz.func49, Tryz.ntmps49
  go_wp2_with (at_builtin; go_must (refine wpList_append_N _ (d := (⟨0, 0, 0⟩ : Sk8)) rfl (.tmp 5) (.tmp 6) _ rfl _ 3 24 skE8 encK8_len (some ⟨w.heap.size, 0, none⟩) 0 0 [] rfl ?sl ?nn (some ⟨b, o, none⟩) n c ks rfl ?sr (by omega) (by omega) (by omega) ?_; (case sl => exact ⟨rfl, fun h => absurd h (by omega)⟩); (case nn => exact fun h => by cases h); (case sr => exact (HAI.out.later (by (repeat first | with_reducible assumption | with_reducible exact Below.refl _ _ | (with_reducible refine Below.alloc ?_ ?side _; case side => (first | omega | (with_reducible exact Below.size (by assumption)) | (simp; done) | (simp; omega))) | (with_reducible refine Below.setCell ?_ ?side _; case side => (first | omega | (with_reducible exact Below.size (by assumption)) | (simp; done) | (simp; omega))) | with_reducible refine Below.drew ?_ | with_reducible refine below_drewN ?_ _ | (with_reducible refine below_step (by assumption) ?side ?_; case side => (first | omega | (with_reducible exact Below.size (by assumption)) | (simp; done) | (simp; omega))))))); (rintro c5 w5 ho5 hb5); (have HO5 := Lib.hid ho5); (have HB5 : Below w.heap.size w w5 := Below.trans (b := w.alloc (.cells #[] 77)) ((Below.refl _ _).alloc (Nat.le_refl _) _) (hb5.mono (by simp))); clear ho5 hb5))
  have h5 := HO5.out
  rw [Nat.zero_add, List.nil_append, World.size_alloc] at h5
  exact bodyPost_ret (v := .slice (some ⟨w.heap.size + 1, 0, none⟩) n c5) (by simp [results, Tryz.results49, go_sem]) rfl ⟨w.heap.size + 1, c5, rfl, own_mono h5 (by omega), HB5⟩
set_option maxRecDepth 100000 in
set_option maxHeartbeats 800000 in
theorem cloneI8_c (A : Option Addr) (n c : Nat) (ks : List Int) (w : World) (hn : 0 < n) (hn2 : n ≤ 40) (HA : IntsAt w A n ks) :
    Calls Tryz.prog 84 #[.slice A n c] w fun e w' => ∃ g c', e = .returned (.slice (some ⟨g, 0, none⟩) n c') ∧ w'.ownsRow w.heap.size 3 1 (.slice (some ⟨g, 0, none⟩) n c') n (ks.flatMap encI) ∧ Below w.heap.size w w' := by
  obtain ⟨b, o, rfl, hb, -⟩ := HA.2 (by omega)
  have HAI := Lib.hid HA
  have hnil : ∀ w, (binOp .eql 29 (.slice (some ⟨b, o, none⟩) n c) (.slice none 0 0)).run Tryz.prog w = .ok (.bool false) w := fun w => eql_nil8 w _ Tryz.underlying29
  clear HA
  go_enter Tryz.func84, Tryz.ntmps84
  go_wp2_with (at_builtin; go_must (refine wpList_append_N _ (d := (0 : Int)) rfl (.tmp 5) (.tmp 6) _ rfl _ 1 8 intE8 encI_len (some ⟨w.heap.size, 0, none⟩) 0 0 [] rfl ?sl ?nn (some ⟨b, o, none⟩) n c ks rfl ?sr (by omega) (by omega) (by omega) ?_; (case sl => exact ⟨rfl, fun h => absurd h (by omega)⟩); (case nn => exact fun h => by cases h); (case sr => exact (HAI.out.later (by (repeat first | with_reducible assumption | with_reducible exact Below.refl _ _ | (with_reducible refine Below.alloc ?_ ?side _; case side => (first | omega | (with_reducible exact Below.size (by assumption)) | (simp; done) | (simp; omega))) | (with_reducible refine Below.setCell ?_ ?side _; case side => (first | omega | (with_reducible exact Below.size (by assumption)) | (simp; done) | (simp; omega))) | with_reducible refine Below.drew ?_ | with_reducible refine below_drewN ?_ _ | (with_reducible refine below_step (by assumption) ?side ?_; case side => (first | omega | (with_reducible exact Below.size (by assumption)) | (simp; done) | (simp; omega))))))); (rintro c5 w5 ho5 hb5); (have HO5 := Lib.hid ho5); (have HB5 : Below w.heap.size w w5 := Below.trans (b := w.alloc (.cells #[] 3)) ((Below.refl _ _).alloc (Nat.le_refl _) _) (hb5.mono (by simp))); clear ho5 hb5))
  have h5 := HO5.out
  rw [Nat.zero_add, List.nil_append, World.size_alloc] at h5
  exact bodyPost_ret (v := .slice (some ⟨w.heap.size + 1, 0, none⟩) n c5) (by simp [results, Tryz.results84, go_sem]) rfl ⟨w.heap.size + 1, c5, rfl, own_mono h5 (by omega), HB5⟩

end Go.Proofs.YtcbeiadimchknaaGreat

namespace Go.Proofs.YtcbeiadimchknaaGreat
open Go.RowKit
open Go.Sort (grow)
set_option linter.unusedVariables false
set_option linter.unusedSimpArgs false

theorem sks_far8 {w : World} {A : Option Addr} {n : Nat} {es : List Sk8} (h : SksAt w A n es) {p : Addr} (hp : ∀ a, A = some a → a.block ≠ p.block) (u : Value) : SksAt (w.setCell p u) A n es := by
  refine ⟨h.1, fun hn => ?_⟩
  obtain ⟨b, off, rfl, hb, hc⟩ := h.2 hn
  exact ⟨b, off, rfl, by simpa using hb, fun k hk j u hu => (World.cell?_of_block (Below.heap_setCell w p _ b (hp _ rfl))).trans (hc k hk j u hu)⟩
set_option maxRecDepth 100000 in
set_option maxHeartbeats 3200000 in
theorem buy1_c (bo bs : Nat) (A : Option Addr) (nr c : Nat) (B : Option Addr) (ns d : Nat) (C : Option Addr) (nk f : Nat) (shk z x : Int) (rs : List Rt8) (ss : List Sp) (ks : List Sk8) (w : World) (hnk : 0 < nk) (hnk2 : nk ≤ 7) (hkl : ks.length = nk) (HO : Blk w bo 40 #[.slice A nr c, .slice B ns d, .slice C nk f, .int .i64 shk]) (HZ : Blk w bs 3 #[.int .i64 z]) (HA : RtsAt w A nr rs) (HB : SpsAt w B ns ss) (HC : SksAt w C nk ks) (ok : Ok8 nr ns (nk + 1) rs ss (ks ++ [⟨z, x, x⟩]) shk) :
    Calls Tryz.prog 48 #[.int .i64 x, .pointer (some ⟨bo, 0, none⟩), .pointer (some ⟨bs, 0, none⟩)] w fun e w' => e = .returned (.bool (canP rs nr ss ns (ks ++ [⟨z, x, x⟩]) (nk + 1) shk)) ∧ Below w.heap.size w w' := by
  have kCl := Lib.hid (fun V (hV : Below w.heap.size w V) => cloneK8_c C nk f ks V hnk (by omega) (HC.later hV))
  have kCa := Lib.hid (fun A9 c9 V (hV : Below w.heap.size w V) (hs : SksAt V A9 (nk + 1) (ks ++ [⟨z, x, x⟩])) => can8_c A nr c B ns d A9 (nk + 1) c9 shk rs ss (ks ++ [⟨z, x, x⟩]) V (HA.later hV) (HB.later hV) hs ok)
  have HOI := Lib.hid HO
  have HZI := Lib.hid HZ
  have q0 := HO.cell
  have l0 := HO.lt
  obtain ⟨r, hr⟩ : ∃ r, canP rs nr ss ns (ks ++ [⟨z, x, x⟩]) (nk + 1) shk = r := ⟨_, rfl⟩
  rw [hr] at kCa ⊢
  clear HO HZ HA HB HC ok hr
  go_enter Tryz.func48, Tryz.ntmps48
  go_upto_region 2 with (fail)
  obtain ⟨bm, hbm0⟩ : ∃ y, w.heap.size = y := ⟨_, rfl⟩
  go_name_world W hW
  have BW := (al1 hW).1
  have HM : Hid (Blk W bm 40 #[.slice A nr c, .slice B ns d, .slice C nk f, .int .i64 shk]) := by rw [← hW, ← hbm0]; exact Lib.hid (Blk.new w _ _)
  have hbm : w.heap.size ≤ bm := by omega
  have hbo : bo < bm := by omega
  have hbs : bs < bm := by have := HZI.out.lt; omega
  have hbW : bm < W.heap.size := HM.out.lt
  have HOW := Lib.hid (HOI.out.below BW l0)
  have HZW := Lib.hid (HZI.out.below BW HZI.out.lt)
  have HSS : Hid (∀ W', Below W.heap.size W W' → (∀ j, W'.cell? ⟨bo, j, none⟩ = #[Value.slice A nr c, .slice B ns d, .slice C nk f, .int .i64 shk][j]?) ∧ W'.cell? ⟨bs, 0, none⟩ = some (.int .i64 z)) := Lib.hid (fun W' h => ⟨(HOW.out.below h HOW.out.lt).cell, (HZW.out.below h HZW.out.lt).cell 0⟩)
  rw [hbm0]
  clear hW q0 l0 hbm0
  obtain ⟨Y, hY⟩ : ∃ Y, W.drew = Y := ⟨_, rfl⟩
  have BY : Below W.heap.size W Y := by rw [← hY]; (repeat first | with_reducible assumption | with_reducible exact Below.refl _ _ | (with_reducible refine Below.alloc ?_ ?side _; case side => (first | omega | (with_reducible exact Below.size (by assumption)) | (simp; done) | (simp; omega))) | (with_reducible refine Below.setCell ?_ ?side _; case side => (first | omega | (with_reducible exact Below.size (by assumption)) | (simp; done) | (simp; omega))) | with_reducible refine Below.drew ?_ | with_reducible refine below_drewN ?_ _ | (with_reducible refine below_step (by assumption) ?side ?_; case side => (first | omega | (with_reducible exact Below.size (by assumption)) | (simp; done) | (simp; omega))))
  refine wp_region_L (by kernel_rfl) (fun W' => (∀ j, W'.cell? ⟨bo, j, none⟩ = #[Value.slice A nr c, .slice B ns d, .slice C nk f, .int .i64 shk][j]?) ∧ W'.cell? ⟨bs, 0, none⟩ = some (.int .i64 z)) 99 ?_
  rw [hY]
  have hS := HSS.out Y BY
  refine wpAnyL_take (i := 0) (v := ?_) rfl (by kernel_rfl) (by kernel_rfl) (by kernel_rfl) (by kernel_rfl) (fun _ _ _ h => h) hS (Or.inl ⟨by rfl, ?_⟩) ?_
  rotate_left 1
  · intro w9 hw9
    obtain ⟨s0, s1⟩ := hw9
    go_simp
    try with_reducible rfl
  try simp only [List.getElem_toArray, List.getElem_cons_zero, List.getElem_cons_succ, Act.put, List.setIfInBounds_toArray, List.set_cons_zero, List.set_cons_succ]
  refine wpAnyL_take (i := 1) (v := ?_) rfl (by kernel_rfl) (by kernel_rfl) (by kernel_rfl) (by kernel_rfl) (fun _ _ _ h => h) hS (Or.inl ⟨by rfl, ?_⟩) ?_
  rotate_left 1
  · intro w9 hw9
    obtain ⟨s0, s1⟩ := hw9
    go_simp
    try with_reducible rfl
  try simp only [List.getElem_toArray, List.getElem_cons_zero, List.getElem_cons_succ, Act.put, List.setIfInBounds_toArray, List.set_cons_zero, List.set_cons_succ]
  refine wpAnyL_take (i := 3) (v := ?_) rfl (by kernel_rfl) (by kernel_rfl) (by kernel_rfl) (by kernel_rfl) (fun _ _ _ h => h) hS (Or.inl ⟨by rfl, ?_⟩) ?_
  rotate_left 1
  · intro w9 hw9
    obtain ⟨s0, s1⟩ := hw9
    go_simp
    try with_reducible rfl
  try simp only [List.getElem_toArray, List.getElem_cons_zero, List.getElem_cons_succ, Act.put, List.setIfInBounds_toArray, List.set_cons_zero, List.set_cons_succ]
  refine wpAnyL_take (i := 4) (v := ?_) rfl (by kernel_rfl) (by kernel_rfl) (by kernel_rfl) (by kernel_rfl) (fun _ _ _ h => h) hS (Or.inl ⟨by rfl, ?_⟩) ?_
  rotate_left 1
  · intro w9 hw9
    obtain ⟨s0, s1⟩ := hw9
    go_simp
    try with_reducible rfl
  try simp only [List.getElem_toArray, List.getElem_cons_zero, List.getElem_cons_succ, Act.put, List.setIfInBounds_toArray, List.set_cons_zero, List.set_cons_succ]
  refine wpAnyL_take (i := 5) (v := ?_) rfl (by kernel_rfl) (by kernel_rfl) (by kernel_rfl) (by kernel_rfl) (fun _ _ _ h => h) hS (Or.inl ⟨by rfl, ?_⟩) ?_
  rotate_left 1
  · intro w9 hw9
    obtain ⟨s0, s1⟩ := hw9
    go_simp
    try with_reducible rfl
  try simp only [List.getElem_toArray, List.getElem_cons_zero, List.getElem_cons_succ, Act.put, List.setIfInBounds_toArray, List.set_cons_zero, List.set_cons_succ]
  refine wpAnyL_take (i := 6) (v := ?_) rfl (by kernel_rfl) (by kernel_rfl) (by kernel_rfl) (by kernel_rfl) (fun _ _ _ h => h) hS (Or.inl ⟨by rfl, ?_⟩) ?_
  rotate_left 1
  · intro w9 hw9
    obtain ⟨s0, s1⟩ := hw9
    go_simp
    try with_reducible rfl
  try simp only [List.getElem_toArray, List.getElem_cons_zero, List.getElem_cons_succ, Act.put, List.setIfInBounds_toArray, List.set_cons_zero, List.set_cons_succ]
  refine wpAnyL_take (i := 7) (v := ?_) rfl (by kernel_rfl) (by kernel_rfl) (by kernel_rfl) (by kernel_rfl) (fun _ _ _ h => h) hS (Or.inl ⟨by rfl, ?_⟩) ?_
  rotate_left 1
  · intro w9 hw9
    obtain ⟨s0, s1⟩ := hw9
    go_simp
    try with_reducible rfl
  try simp only [List.getElem_toArray, List.getElem_cons_zero, List.getElem_cons_succ, Act.put, List.setIfInBounds_toArray, List.set_cons_zero, List.set_cons_succ]
  clear hS
  refine wpAnyL_two (i := 2) (j := 8) (by kernel_rfl) rfl rfl (fun K hK => ?_) (fun K hK => ?_)
  · skip
    try refine wpAnyL_one (i := 2) (by kernel_rfl) rfl (fun K hK => ?_)
    go_simp
    go_at_call 49
    refine (kCl.out _ (BW.trans ((BY).mono BW.size))).mono ?_
    rintro e w7 ⟨g7, c7, rfl, ho7, hb7⟩
    have B7 := Below.trans BY (hb7.mono (Below.size BY))
    have HB7 := Lib.hid hb7
    have HO7 := Lib.hid (own_mono ho7 (Below.size BY))
    clear ho7 hb7
    refine hK.out _ _ (fun _ => HSS.out _ B7) (fun _ => ?_)
    clear hK K
    try simp only [List.getElem_toArray, List.getElem_cons_zero, List.getElem_cons_succ, Act.put, List.setIfInBounds_toArray, List.set_cons_zero, List.set_cons_succ]
    try refine wpAnyL_one (i := 8) (by kernel_rfl) rfl (fun K hK => ?_)
    go_simp
    obtain ⟨w8, hw8⟩ : ∃ y8, World.alloc w7 (.cells #[.int .i64 z, .int .i64 x, .int .i64 x] 77) = y8 := ⟨_, rfl⟩
    have HS8 : Hid (SksAt w8 (some ⟨(w7).heap.size, 0, none⟩) 1 [⟨z, x, x⟩]) := by rw [← hw8]; exact Lib.hid (show SksAt _ _ _ _ from sl_new encK8_len rfl rfl rfl)
    have HB8 : Hid (Below (w7).heap.size w7 w8) := by rw [← hw8]; exact Lib.hid ((Below.refl _ _).alloc (Nat.le_refl _) _)
    rw [hw8]
    clear hw8
    have B8 := Below.trans B7 (HB8.out.mono (Below.size B7))
    refine hK.out _ _ (fun _ => HSS.out _ B8) (fun _ => ?_)
    clear hK K
    try simp only [List.getElem_toArray, List.getElem_cons_zero, List.getElem_cons_succ, Act.put, List.setIfInBounds_toArray, List.set_cons_zero, List.set_cons_succ]
    refine wpAnyL_one (i := 9) (by kernel_rfl) rfl (fun K hK => ?_)
    refine step_append_T _ (d := (⟨0, 0, 0⟩ : Sk8)) rfl (.tmp 9) (.tmp 15) _ rfl W.heap.size _ 3 24 skE8 encK8_len encK8_one (.slice (some ⟨g7, 0, none⟩) nk c7) (some g7) nk ks rfl rfl ((own_below HO7.out HB8.out)) _ 1 _ [⟨z, x, x⟩] rfl (HS8.out) (by omega) (B8).size (fun v9 w9 ho9 hg9 ha9 => ?_)
    obtain ⟨A9, c9, rfl, -, hs9⟩ := SlAt.of_own (d := (⟨0, 0, 0⟩ : Sk8)) encK8_len ho9 (by simp [hkl])
    have B9 : Below W.heap.size W w9 := Below.grown B8 hg9 (B8).size (fun g e => by cases e; exact (((own_below HO7.out HB8.out)).lt g7 rfl).1)
    have HS9 := Lib.hid (show SksAt w9 A9 (nk + 1) (ks ++ [⟨z, x, x⟩]) from hs9)
    have HAD := Lib.hid (fun a e => own_addr ho9 a e)
    clear ho9 hg9 ha9 hs9
    refine hK.out _ _ (fun _ => HSS.out _ B9) (fun _ => ?_)
    clear hK K
    try simp only [List.getElem_toArray, List.getElem_cons_zero, List.getElem_cons_succ, Act.put, List.setIfInBounds_toArray, List.set_cons_zero, List.set_cons_succ]
    have hS := HSS.out _ B9
    refine wpAnyL_take (i := 10) (v := ?_) rfl (by kernel_rfl) (by kernel_rfl) (by kernel_rfl) (by kernel_rfl) (fun _ _ _ h => h) hS (Or.inl ⟨by rfl, ?_⟩) ?_
    rotate_left 1
    · intro w9 hw9
      obtain ⟨s0, s1⟩ := hw9
      go_simp
      try with_reducible rfl
    try simp only [List.getElem_toArray, List.getElem_cons_zero, List.getElem_cons_succ, Act.put, List.setIfInBounds_toArray, List.set_cons_zero, List.set_cons_succ]
    clear hS
    have HMw := Lib.hid (HM.out.below B9 HM.out.lt)
    have cm := HMw.out.cell
    have fm := HMw.out.frozen
    have lm := HMw.out.lt
    refine wpAnyL_one (i := 11) (by kernel_rfl) rfl (fun K hK => ?_)
    go_simp
    have HMx := Lib.hid (HMw.out.set_ 2 (.slice A9 (nk + 1) c9))
    have BX9 : Below w.heap.size w (w9.setCell ⟨bm, 2, none⟩ (.slice A9 (nk + 1) c9)) := Below.setCell (p := ⟨bm, 2, none⟩) (BW.trans (B9.mono BW.size)) hbm _
    have HSx : Hid (SksAt (w9.setCell ⟨bm, 2, none⟩ (.slice A9 (nk + 1) c9)) A9 (nk + 1) (ks ++ [⟨z, x, x⟩])) := Lib.hid (sks_far8 HS9.out (fun a e => by have := HAD.out a e; show a.block ≠ bm; omega) _)
    obtain ⟨Wx, hWx⟩ : ∃ y, w9.setCell ⟨bm, 2, none⟩ (.slice A9 (nk + 1) c9) = y := ⟨_, rfl⟩
    have hSx : (∀ j, Wx.cell? ⟨bo, j, none⟩ = #[Value.slice A nr c, .slice B ns d, .slice C nk f, .int .i64 shk][j]?) ∧ Wx.cell? ⟨bs, 0, none⟩ = some (.int .i64 z) := by
      rw [← hWx]
      exact ⟨((HOW.out.below B9 HOW.out.lt).far (p := ⟨bm, 2, none⟩) (by show bo ≠ bm; omega) _).cell, ((HZW.out.below B9 HZW.out.lt).far (p := ⟨bm, 2, none⟩) (by show bs ≠ bm; omega) _).cell 0⟩
    rw [hWx] at HMx BX9 HSx ⊢
    have HSY := Lib.hid hSx
    clear hWx cm fm lm hSx
    refine hK.out _ _ (fun _ => HSY.out) (fun _ => ?_)
    clear hK K
    refine wpAnyL_done (by kernel_rfl) ?_ _
    have cmx := HMx.out.cell
    have lmx := HMx.out.lt
    go_wp2_with (go_at_call 47; refine (kCa.out A9 c9 Wx BX9 HSx.out).mono ?_; rintro e w20 ⟨rfl, hb20⟩; have HBZ := Lib.hid (BX9.trans (hb20.mono BX9.size)); clear hb20)
    go_ret
    exact ⟨rfl, HBZ.out⟩
  · skip
    try refine wpAnyL_one (i := 8) (by kernel_rfl) rfl (fun K hK => ?_)
    go_simp
    obtain ⟨w8, hw8⟩ : ∃ y8, World.alloc Y (.cells #[.int .i64 z, .int .i64 x, .int .i64 x] 77) = y8 := ⟨_, rfl⟩
    have HS8 : Hid (SksAt w8 (some ⟨(Y).heap.size, 0, none⟩) 1 [⟨z, x, x⟩]) := by rw [← hw8]; exact Lib.hid (show SksAt _ _ _ _ from sl_new encK8_len rfl rfl rfl)
    have HB8 : Hid (Below (Y).heap.size Y w8) := by rw [← hw8]; exact Lib.hid ((Below.refl _ _).alloc (Nat.le_refl _) _)
    rw [hw8]
    clear hw8
    have B8 := Below.trans BY (HB8.out.mono (Below.size BY))
    refine hK.out _ _ (fun _ => HSS.out _ B8) (fun _ => ?_)
    clear hK K
    try simp only [List.getElem_toArray, List.getElem_cons_zero, List.getElem_cons_succ, Act.put, List.setIfInBounds_toArray, List.set_cons_zero, List.set_cons_succ]
    try refine wpAnyL_one (i := 2) (by kernel_rfl) rfl (fun K hK => ?_)
    go_simp
    go_at_call 49
    refine (kCl.out _ (BW.trans ((B8).mono BW.size))).mono ?_
    rintro e w7 ⟨g7, c7, rfl, ho7, hb7⟩
    have B7 := Below.trans B8 (hb7.mono (Below.size B8))
    have HB7 := Lib.hid hb7
    have HO7 := Lib.hid (own_mono ho7 (Below.size B8))
    clear ho7 hb7
    refine hK.out _ _ (fun _ => HSS.out _ B7) (fun _ => ?_)
    clear hK K
    try simp only [List.getElem_toArray, List.getElem_cons_zero, List.getElem_cons_succ, Act.put, List.setIfInBounds_toArray, List.set_cons_zero, List.set_cons_succ]
    refine wpAnyL_one (i := 9) (by kernel_rfl) rfl (fun K hK => ?_)
    refine step_append_T _ (d := (⟨0, 0, 0⟩ : Sk8)) rfl (.tmp 9) (.tmp 15) _ rfl W.heap.size _ 3 24 skE8 encK8_len encK8_one (.slice (some ⟨g7, 0, none⟩) nk c7) (some g7) nk ks rfl rfl (HO7.out) _ 1 _ [⟨z, x, x⟩] rfl ((HS8.out.later HB7.out)) (by omega) (B7).size (fun v9 w9 ho9 hg9 ha9 => ?_)
    obtain ⟨A9, c9, rfl, -, hs9⟩ := SlAt.of_own (d := (⟨0, 0, 0⟩ : Sk8)) encK8_len ho9 (by simp [hkl])
    have B9 : Below W.heap.size W w9 := Below.grown B7 hg9 (B7).size (fun g e => by cases e; exact ((HO7.out).lt g7 rfl).1)
    have HS9 := Lib.hid (show SksAt w9 A9 (nk + 1) (ks ++ [⟨z, x, x⟩]) from hs9)
    have HAD := Lib.hid (fun a e => own_addr ho9 a e)
    clear ho9 hg9 ha9 hs9
    refine hK.out _ _ (fun _ => HSS.out _ B9) (fun _ => ?_)
    clear hK K
    try simp only [List.getElem_toArray, List.getElem_cons_zero, List.getElem_cons_succ, Act.put, List.setIfInBounds_toArray, List.set_cons_zero, List.set_cons_succ]
    have hS := HSS.out _ B9
    refine wpAnyL_take (i := 10) (v := ?_) rfl (by kernel_rfl) (by kernel_rfl) (by kernel_rfl) (by kernel_rfl) (fun _ _ _ h => h) hS (Or.inl ⟨by rfl, ?_⟩) ?_
    rotate_left 1
    · intro w9 hw9
      obtain ⟨s0, s1⟩ := hw9
      go_simp
      try with_reducible rfl
    try simp only [List.getElem_toArray, List.getElem_cons_zero, List.getElem_cons_succ, Act.put, List.setIfInBounds_toArray, List.set_cons_zero, List.set_cons_succ]
    clear hS
    have HMw := Lib.hid (HM.out.below B9 HM.out.lt)
    have cm := HMw.out.cell
    have fm := HMw.out.frozen
    have lm := HMw.out.lt
    refine wpAnyL_one (i := 11) (by kernel_rfl) rfl (fun K hK => ?_)
    go_simp
    have HMx := Lib.hid (HMw.out.set_ 2 (.slice A9 (nk + 1) c9))
    have BX9 : Below w.heap.size w (w9.setCell ⟨bm, 2, none⟩ (.slice A9 (nk + 1) c9)) := Below.setCell (p := ⟨bm, 2, none⟩) (BW.trans (B9.mono BW.size)) hbm _
    have HSx : Hid (SksAt (w9.setCell ⟨bm, 2, none⟩ (.slice A9 (nk + 1) c9)) A9 (nk + 1) (ks ++ [⟨z, x, x⟩])) := Lib.hid (sks_far8 HS9.out (fun a e => by have := HAD.out a e; show a.block ≠ bm; omega) _)
    obtain ⟨Wx, hWx⟩ : ∃ y, w9.setCell ⟨bm, 2, none⟩ (.slice A9 (nk + 1) c9) = y := ⟨_, rfl⟩
    have hSx : (∀ j, Wx.cell? ⟨bo, j, none⟩ = #[Value.slice A nr c, .slice B ns d, .slice C nk f, .int .i64 shk][j]?) ∧ Wx.cell? ⟨bs, 0, none⟩ = some (.int .i64 z) := by
      rw [← hWx]
      exact ⟨((HOW.out.below B9 HOW.out.lt).far (p := ⟨bm, 2, none⟩) (by show bo ≠ bm; omega) _).cell, ((HZW.out.below B9 HZW.out.lt).far (p := ⟨bm, 2, none⟩) (by show bs ≠ bm; omega) _).cell 0⟩
    rw [hWx] at HMx BX9 HSx ⊢
    have HSY := Lib.hid hSx
    clear hWx cm fm lm hSx
    refine hK.out _ _ (fun _ => HSY.out) (fun _ => ?_)
    clear hK K
    refine wpAnyL_done (by kernel_rfl) ?_ _
    have cmx := HMx.out.cell
    have lmx := HMx.out.lt
    go_wp2_with (go_at_call 47; refine (kCa.out A9 c9 Wx BX9 HSx.out).mono ?_; rintro e w20 ⟨rfl, hb20⟩; have HBZ := Lib.hid (BX9.trans (hb20.mono BX9.size)); clear hb20)
    go_ret
    exact ⟨rfl, HBZ.out⟩

end Go.Proofs.YtcbeiadimchknaaGreat

namespace Go.Proofs.YtcbeiadimchknaaGreat
open Go.RowKit
open Go.Sort (grow)
set_option linter.unusedVariables false
set_option linter.unusedSimpArgs false

theorem blk_new8 {W : World} {g : Nat} (hg : W.heap.size = g) (t : TypeId) (cs : Array Value) : Blk (W.alloc (.cells cs t)) g t cs := hg ▸ Blk.new W t cs
set_option maxRecDepth 100000 in
set_option maxHeartbeats 3200000 in
theorem Buy8_c (A : Option Addr) (nr c : Nat) (B : Option Addr) (ns d : Nat) (C : Option Addr) (nk f : Nat) (shk z m : Int) (rs : List Rt8) (ss : List Sp) (ks : List Sk8) (w : World) (hnk : 0 < nk) (hz : 1 ≤ z ∧ z ≤ 99) (HA : RtsAt w A nr rs) (HB : SpsAt w B ns ss) (HC : SksAt w C nk ks) (ok : Ok8 nr ns nk rs ss ks shk) (okx : ∀ x, 1 ≤ x → x ≤ 999 → Ok8 nr ns (nk + 1) rs ss (ks ++ [⟨z, x, x⟩]) shk)
    (hc : canP rs nr ss ns ks nk shk = decide (m ≤ 0)) (hm : 0 ≤ m ∧ m ≤ 999) (hx : ∀ x, 1 ≤ x → x ≤ 999 → canP rs nr ss ns (ks ++ [⟨z, x, x⟩]) (nk + 1) shk = decide (m ≤ x)) :
    Calls Tryz.prog 19 #[.agg #[.slice A nr c, .slice B ns d, .slice C nk f, .int .i64 shk], .int .i64 z] w fun e w' => e = .returned (.tuple #[.int .i64 m, .int .i64 0]) ∧ Below w.heap.size w w' := by
  have en1 : ∀ args w, (callFunc 48 args).run Tryz.prog w = .ok (.enter 48 args) w := enters_of Tryz.func48 (by kernel_rfl) rfl
  have h7 := (okx 1 (by omega) (by omega)).kl
  have hkl := HC.1
  have kCk := Lib.hid (fun V (hV : Below w.heap.size w V) => check8_c A nr c B ns d C nk f shk rs ss ks V (HA.later hV) (HB.later hV) (HC.later hV) ok)
  have kCa := fun V (hV : Below w.heap.size w V) => can8_c A nr c B ns d C nk f shk rs ss ks V (HA.later hV) (HB.later hV) (HC.later hV) ok
  rw [hc] at kCa
  have hwn : wn z 1 99 = true := wn_true.2 hz
  have kW := Lib.hid (fun V => by have := within8_c z 1 99 V; rw [hwn] at this; exact this)
  have kBu : Hid (∀ bo bs V x, 1 ≤ x → x ≤ 999 → Below w.heap.size w V → Blk V bo 40 #[.slice A nr c, .slice B ns d, .slice C nk f, .int .i64 shk] → Blk V bs 3 #[.int .i64 z] → Calls Tryz.prog 48 #[.int .i64 x, .pointer (some ⟨bo, 0, none⟩), .pointer (some ⟨bs, 0, none⟩)] V fun e w' => e = .returned (.bool (decide (m ≤ x))) ∧ Below V.heap.size V w') := Lib.hid (fun bo bs V x h1 h2 hV hO hZ => by
    have := buy1_c bo bs A nr c B ns d C nk f shk z x rs ss ks V hnk (by omega) hkl hO hZ (HA.later hV) (HB.later hV) (HC.later hV) (okx x h1 h2)
    rwa [hx x h1 h2] at this)
  clear HA HB HC ok okx hc hx hwn hkl
  by_cases hm0 : m ≤ 0
  · have e0 : decide (m ≤ 0) = true := decide_eq_true hm0
    rw [e0] at kCa
    have kCan := Lib.hid kCa
    obtain rfl : m = 0 := by omega
    clear kCa
    go_enter Tryz.func19, Tryz.ntmps19
    go_upto_region 1 with (fail)
    go_name_world X hX
    have BX := (al2 hX).1
    have zX := BX.size
    have HO0 : Hid (Blk X w.heap.size 40 #[.slice A nr c, .slice B ns d, .slice C nk f, .int .i64 shk]) := by rw [← hX]; exact Lib.hid ((Blk.new w _ _).alloc _)
    have HZ0 : Hid (Blk X (w.heap.size + 1) 3 #[.int .i64 z]) := by rw [← hX]; exact Lib.hid (blk_new8 (by simp) _ _)
    have q0 := HO0.out.cell
    have l0 := HO0.out.lt
    clear hX
    go_wp2_with (first | (go_at_call 30; refine (kCk.out X BX).mono ?_; rintro e w1 ⟨rfl, hb1⟩; have HO1 := Lib.hid (HO0.out.below hb1 l0); have HZ1 := Lib.hid (HZ0.out.below hb1 HZ0.out.lt); have q1 := HO1.out.cell; have l1 := HO1.out.lt; have q2 := HZ1.out.cell; have l2 := HZ1.out.lt; have B1 := BX.trans (hb1.mono zX); clear hb1 q0 l0) | (go_at_call 32; refine (kW.out _).mono ?_; rintro e w' ⟨rfl, rfl⟩) | (go_at_call 47; refine (kCan.out _ B1).mono ?_; rintro e w2 ⟨rfl, hb2⟩; have B2 := Lib.hid (B1.trans (hb2.mono B1.size)); clear hb2))
    exact bodyPost_ret (v := .tuple #[.int .i64 0, .int .i64 0]) (by simp [results, Tryz.results19, go_sem]) rfl ⟨rfl, B2.out⟩
  · have e0 : decide (m ≤ 0) = false := decide_eq_false hm0
    rw [e0] at kCa
    have kCan := Lib.hid kCa
    have e9 : decide (m ≤ 999) = true := decide_eq_true hm.2
    clear kCa
    go_enter Tryz.func19, Tryz.ntmps19
    go_upto_region 1 with (fail)
    go_name_world X hX
    have BX := (al2 hX).1
    have zX := BX.size
    have HO0 : Hid (Blk X w.heap.size 40 #[.slice A nr c, .slice B ns d, .slice C nk f, .int .i64 shk]) := by rw [← hX]; exact Lib.hid ((Blk.new w _ _).alloc _)
    have HZ0 : Hid (Blk X (w.heap.size + 1) 3 #[.int .i64 z]) := by rw [← hX]; exact Lib.hid (blk_new8 (by simp) _ _)
    have q0 := HO0.out.cell
    have l0 := HO0.out.lt
    clear hX
    go_upto_region 9 with (first | (go_at_call 30; refine (kCk.out X BX).mono ?_; rintro e w1 ⟨rfl, hb1⟩; have HO1 := Lib.hid (HO0.out.below hb1 l0); have HZ1 := Lib.hid (HZ0.out.below hb1 HZ0.out.lt); have q1 := HO1.out.cell; have l1 := HO1.out.lt; have q2 := HZ1.out.cell; have l2 := HZ1.out.lt; have B1 := BX.trans (hb1.mono zX); clear hb1 q0 l0) | (go_at_call 32; refine (kW.out _).mono ?_; rintro e w' ⟨rfl, rfl⟩) | (go_at_call 47; refine (kCan.out _ B1).mono ?_; rintro e w2 ⟨rfl, hb2⟩; have HO2 := Lib.hid (HO1.out.below hb2 l1); have HZ2 := Lib.hid (HZ1.out.below hb2 l2); have B2 := B1.trans (hb2.mono B1.size); clear hb2 q1 q2))
    go_wp2_with fail
    refine (kBu.out w.heap.size (w.heap.size + 1) w2 999 (by omega) (by omega) B2 HO2.out HZ2.out).mono ?_
    rintro e w3 ⟨rfl, hb3⟩
    rw [e9]
    have HO3 := Lib.hid (HO2.out.below hb3 HO2.out.lt)
    have HZ3 := Lib.hid (HZ2.out.below hb3 HZ2.out.lt)
    have B3 := Lib.hid (B2.trans (hb3.mono B2.size))
    clear hb3
    go_wp2_with fail
    go_loopw [8, 9] (fun lo hi (wv : World) => ∃ l h : Int, lo = .int .i64 l ∧ hi = .int .i64 h ∧ 1 ≤ l ∧ l ≤ m ∧ m ≤ h ∧ h ≤ 999 ∧ Hid (Below w.heap.size w wv) ∧ Hid (Blk wv w.heap.size 40 #[.slice A nr c, .slice B ns d, .slice C nk f, .int .i64 shk]) ∧ Hid (Blk wv (w.heap.size + 1) 3 #[.int .i64 z])) (fun lo hi _ => (intOf hi - intOf lo).toNat)
    case atStart => exact ⟨1, 999, rfl, rfl, by omega, by omega, by omega, by omega, B3, HO3, HZ3⟩
    case round =>
      obtain ⟨l, h, rfl, rfl, h1, h2, h3, h4, HB, HO, HZ⟩ := hrel
      by_cases hlh : l < h
      · have hqB : decide (l < h) = true := decide_eq_true hlh
        have v1 : IntKind.i64.wrap (l + h) = l + h := IntWalk.i64_in _ (by omega)
        obtain ⟨mid, hmid⟩ : ∃ x, (l + h) / 2 = x := ⟨_, rfl⟩
        have g1 : l ≤ mid ∧ mid < h := by omega
        have vm : IntKind.i64.wrap (mid + 1) = mid + 1 := IntWalk.i64_in _ (by omega)
        by_cases hmm : m ≤ mid
        · have emm : decide (m ≤ mid) = true := decide_eq_true hmm
          have kk := kBu.out w.heap.size (w.heap.size + 1) wr mid (by omega) (by omega) HB.out HO.out HZ.out
          rw [emm] at kk
          have KK := Lib.hid kk
          clear kk
          go_wp2_with fail
          refine KK.out.mono ?_
          rintro e w5 ⟨rfl, hb5⟩
          have HB5 := Lib.hid (HB.out.trans (hb5.mono HB.out.size))
          have HO5 := Lib.hid (HO.out.below hb5 HO.out.lt)
          have HZ5 := Lib.hid (HZ.out.below hb5 HZ.out.lt)
          clear hb5
          go_wp2_with fail
          go_roundw
          case rel => exact ⟨l, mid, rfl, rfl, by omega, by omega, by omega, by omega, HB5, HO5, HZ5⟩
          case measure => simp [intOf]; omega
        · have emm : decide (m ≤ mid) = false := decide_eq_false hmm
          have kk := kBu.out w.heap.size (w.heap.size + 1) wr mid (by omega) (by omega) HB.out HO.out HZ.out
          rw [emm] at kk
          have KK := Lib.hid kk
          clear kk
          go_wp2_with fail
          refine KK.out.mono ?_
          rintro e w5 ⟨rfl, hb5⟩
          have HB5 := Lib.hid (HB.out.trans (hb5.mono HB.out.size))
          have HO5 := Lib.hid (HO.out.below hb5 HO.out.lt)
          have HZ5 := Lib.hid (HZ.out.below hb5 HZ.out.lt)
          clear hb5
          go_wp2_with fail
          go_roundw
          case rel => exact ⟨mid + 1, h, rfl, rfl, by omega, by omega, by omega, by omega, HB5, HO5, HZ5⟩
          case measure => simp [intOf]; omega
      · have hqB : decide (l < h) = false := decide_eq_false hlh
        obtain rfl : m = l := by omega
        go_wp2_with fail
        exact bodyPost_ret (v := .tuple #[.int .i64 m, .int .i64 0]) (by simp [results, Tryz.results19, go_sem]) rfl ⟨rfl, HB.out⟩

end Go.Proofs.YtcbeiadimchknaaGreat
