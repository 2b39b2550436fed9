/- open of orders (layer 8). -/
import Derived.Test.YtcbeiadimchknaaGreatQp11
import Derived.Test.YtcbeiadimchknaaGreatQp04
import Derived.Test.YtcbeiadimchknaaGreatQp08
import Derived.Shelf.Abstract
import Derived.Laws.EntriesVeiled
import Derived.Handy
import Derived.Deep.DrawnRows
import Derived.Deep.DeepCutAuto
import Derived.BigRegionIn
import Derived.Shelf.RegionOpen
namespace Go.Proofs.YtcbeiadimchknaaGreat
open Go.RowKit
open Go.Sort (grow)
set_option linter.unusedVariables false
set_option linter.unusedSimpArgs false

def huL (rs : List Rt8) (nr : Nat) (ss : List Sp) (k : Nat) : List (List Nd8) := (List.range k).map fun i => nS rs nr (spAt ss i)
theorem huL_succ {rs : List Rt8} {nr : Nat} {ss : List Sp} {k : Nat} : huL rs nr ss (k + 1) = huL rs nr ss k ++ [nS rs nr (spAt ss k)] := by unfold huL; rw [List.range_succ, List.map_append]; rfl
theorem huL_at {rs : List Rt8} {nr : Nat} {ss : List Sp} {n k : Nat} (h : k < n) : hlAt (huL rs nr ss n) k = nS rs nr (spAt ss k) := by
  unfold hlAt huL; rw [List.getD_eq_getElem?_getD]; simp [h]
theorem hlE8 : ElemT Tryz.prog 120 126 1 24 := by
  obtain ⟨i0, hi0, hz0, hz1, hz2⟩ := info_parts (P := Tryz.prog) (show (Tryz.prog.info? 126).map (fun i => (i.zero, i.size, i.bytes)) = some (some (.agg #[.slice none 0 0]), 1, 24) by kernel_rfl)
  exact ⟨Tryz.underlying120, ⟨i0, _, hi0, hz0, hz1, hz2, rfl⟩, by omega, by omega⟩
theorem NdsAt.far8 {w : World} {A : Option Addr} {n : Nat} {es : List Nd8} (h : NdsAt w A n es) {p : Addr} (hp : ∀ a, A = some a → a.block ≠ p.block) (u : Value) : NdsAt (w.setCell p u) A n es := by
  refine ⟨h.1, fun hn => ?_⟩
  obtain ⟨b, off, rfl, hb, hc⟩ := h.2 hn
  exact ⟨b, off, rfl, by simpa using hb, fun k hk j u hu => (World.cell?_of_block (Below.heap_setCell w p _ b (hp _ rfl))).trans (hc k hk j u hu)⟩
theorem OwnHs8.far8 {base : Nat} {e : TypeId} {w : World} {v : Value} {n : Nat} {hs : List Hd} {nss : List (List Nd8)} (h : OwnHs8 base e w v n hs nss) {p : Addr} (hp : ∀ g, v.ownBlock = some g → g ≠ p.block) (hq : ∀ j, j < n → ∀ a, (hAt hs j).A = some a → a.block ≠ p.block) (u : Value) : OwnHs8 base e (w.setCell p u) v n hs nss :=
  ⟨own_same h.own (fun g hg => Below.heap_setCell w p u g (hp g hg)), h.hl, h.xl, fun j hj => ⟨(h.inn j hj).1.far8 (hq j hj) u, fun a ha => ⟨((h.inn j hj).2 a ha).1, by simpa using ((h.inn j hj).2 a ha).2⟩⟩⟩
/-- an opened yard -/
structure YdM (yb : Nat) (A : Option Addr) (nr c : Nat) (B : Option Addr) (ns d : Nat) (C : Option Addr) (nk f : Nat) (shk : Int) (Ah : Option Addr) (ch : Nat) (hs : List Hd) (nss : List (List Nd8)) (W : World) : Prop where
  blk : Blk W yb 122 #[.slice A nr c, .slice B ns d, .slice C nk f, .int .i64 shk, .slice Ah ns ch]
  hu : HsAt8 W Ah ns hs nss
theorem YdM.later {yb : Nat} {A : Option Addr} {nr c : Nat} {B : Option Addr} {ns d : Nat} {C : Option Addr} {nk f : Nat} {shk : Int} {Ah : Option Addr} {ch : Nat} {hs : List Hd} {nss : List (List Nd8)} {W W' : World} (h : YdM yb A nr c B ns d C nk f shk Ah ch hs nss W) (hb : Below W.heap.size W W') : YdM yb A nr c B ns d C nk f shk Ah ch hs nss W' := ⟨h.blk.below hb h.blk.lt, h.hu.later hb⟩
/-- the memory of open behind k ships -/
structure OpI (w : World) (base yb : Nat) (rs : List Rt8) (nr : Nat) (ss : List Sp) (o3 : List Value) (ob : Array Value) (k : Nat) (W : World) : Prop where
  hul : ∃ v hs, Blk W yb 122 (o3 ++ [v]).toArray ∧ OwnHs8 base 126 W v k hs (huL rs nr ss k) ∧ ∀ j, j < k → ∀ a, (hAt hs j).A = some a → yb + 1 ≤ a.block
  ho : Blk W w.heap.size 40 ob
  below : Below w.heap.size w W
set_option maxRecDepth 100000 in
set_option maxHeartbeats 3200000 in
theorem open8_c (A : Option Addr) (nr c : Nat) (B : Option Addr) (ns d : Nat) (C : Option Addr) (nk f : Nat) (shk : Int) (rs : List Rt8) (ss : List Sp) (ks : List Sk8) (w : World) (HA : RtsAt w A nr rs) (HB : SpsAt w B ns ss) (ok : Ok8 nr ns nk rs ss ks shk) :
    Calls Tryz.prog 34 #[.agg #[.slice A nr c, .slice B ns d, .slice C nk f, .int .i64 shk]] w fun e w' => ∃ yb Ah ch hs, e = .returned (.pointer (some ⟨yb, 0, none⟩)) ∧ w.heap.size ≤ yb ∧ YdM yb A nr c B ns d C nk f shk Ah ch hs (huL rs nr ss ns) w' ∧ Below w.heap.size w w' := by
  have HNE := Lib.hid (fun (k : Nat) (hk : k < ns) V (hV : Below w.heap.size w V) => needs_c A nr c B ns d C nk f shk rs ss ks (spAt ss k).lo (spAt ss k).hi (ok.sp k hk) V (HA.later hV) ok)
  have HBI := Lib.hid HB
  have h2 := ok.sl
  clear HA HB ok
  go_enter Tryz.func34, Tryz.ntmps34
  go_upto_region 1 with (fail)
  go_name_world X hX
  have BX := (al1 hX).1
  have zX := (al1 hX).2
  have HO0 : Hid (Blk X w.heap.size 40 #[.slice A nr c, .slice B ns d, .slice C nk f, .int .i64 shk]) := by rw [← hX]; exact Lib.hid (Blk.new w _ _)
  have q0 := HO0.out.cell
  have l0 := HO0.out.lt
  clear hX
  go_upto_region 2 with (fail)
  obtain ⟨yb, hyb⟩ : ∃ x, w.heap.size + 1 = x := ⟨_, rfl⟩
  go_name_world M hM
  have HM0 : Hid (OpI w (yb + 1) yb rs nr ss [.slice A nr c, .slice B ns d, .slice C nk f, .int .i64 shk] #[.slice A nr c, .slice B ns d, .slice C nk f, .int .i64 shk] 0 M) := Lib.hid (by
    rw [← hM, ← hyb, ← zX]
    exact ⟨⟨.slice none 0 0, [], Blk.new X _ _, OwnHs8.nil _ _ _, fun j hj => absurd hj (by omega)⟩, HO0.out.alloc _, BX.alloc (by omega) _⟩)
  have zM : M.heap.size = yb + 1 := by rw [← hM, World.size_alloc, zX, hyb]
  rw [hyb]
  have HYB := Lib.hid hyb
  clear hM q0 l0 zX hyb
  have q1 := HM0.out.ho.cell
  have l1 := HM0.out.ho.lt
  go_wp2_with fail
  clear q1 l1
  go_loopw [12] (fun i (wv : World) => ∃ k : Nat, k ≤ ns ∧ i = .int .i64 k ∧ Hid (OpI w (yb + 1) yb rs nr ss [.slice A nr c, .slice B ns d, .slice C nk f, .int .i64 shk] #[.slice A nr c, .slice B ns d, .slice C nk f, .int .i64 shk] k wv) ∧ yb + 1 ≤ wv.heap.size) (fun i _ => ns - (intOf i).toNat)
  case atStart => exact ⟨0, by omega, rfl, HM0, by omega⟩
  case round =>
    obtain ⟨k, hk, rfl, HI, hbz⟩ := hrel
    clear HM0 zM
    obtain ⟨vh, hs, hyk, hown, hbl⟩ := HI.out.hul
    have HBL := Lib.hid hbl
    clear hbl
    have hbw := HI.out.below
    by_cases hlt : k < ns
    · have hqB : decide ((k : Int) < ns) = true := decide_eq_true (by omega)
      have vk : IntKind.i64.wrap ((k : Int) + 1) = (k : Int) + 1 := IntWalk.i64_in _ (by omega)
      obtain ⟨b0, o0, rfl, hb0, x0, x1⟩ := (HBI.out.later hbw).get hlt
      have HYK := Lib.hid hyk
      have HOW := Lib.hid hown
      clear hyk hown
      go_upto_region 5 with (fail)
      go_name_world Z hZ
      have BZ : Below wr.heap.size wr Z := (al1 hZ).1
      have zZ : Z.heap.size = wr.heap.size + 1 := (al1 hZ).2
      have HSZ : Hid (Blk Z wr.heap.size 34 #[.int .i64 (spAt ss k).lo, .int .i64 (spAt ss k).hi]) := by rw [← hZ]; exact Lib.hid (Blk.new wr _ _)
      have hbZ := hbw.trans (BZ.mono hbw.size)
      have HYZ := Lib.hid (HYK.out.below BZ HYK.out.lt)
      have HOZ := Lib.hid (HI.out.ho.below BZ HI.out.ho.lt)
      have HWZ := Lib.hid (HOW.out.later BZ)
      have HN1 := Lib.hid (HNE.out k hlt)
      obtain ⟨⟨t0, t1⟩, hsp⟩ : ∃ x, spAt ss k = x := ⟨_, rfl⟩
      have HSP := Lib.hid hsp
      rw [hsp] at HN1 HSZ
      simp only at HN1 HSZ
      clear hsp hZ x0 x1 HYK HOW
      obtain ⟨gs, hgs⟩ : ∃ x, wr.heap.size = x := ⟨_, rfl⟩
      rw [hgs] at HSZ ⊢
      have HGS := Lib.hid hgs
      have hyb2 : w.heap.size < yb := by have := HYB.out; omega
      have hgy : yb + 1 ≤ gs := by omega
      have zZ2 : Z.heap.size = gs + 1 := by omega
      have HSS : Hid (∀ W', Below Z.heap.size Z W' → (∀ j, W'.cell? ⟨yb, j, none⟩ = #[Value.slice A nr c, .slice (some ⟨b0, o0, none⟩) ns d, .slice C nk f, .int .i64 shk, vh][j]?) ∧ (∀ j, W'.cell? ⟨w.heap.size, j, none⟩ = #[Value.slice A nr c, .slice (some ⟨b0, o0, none⟩) ns d, .slice C nk f, .int .i64 shk][j]?) ∧ (∀ j, W'.cell? ⟨gs, j, none⟩ = #[Value.int .i64 t0, .int .i64 t1][j]?)) := Lib.hid (fun W' h => ⟨(HYZ.out.below h HYZ.out.lt).cell, (HOZ.out.below h HOZ.out.lt).cell, (HSZ.out.below h HSZ.out.lt).cell⟩)
      have hvb : ∀ g, vh.ownBlock = some g → yb + 1 ≤ g ∧ g < gs := fun g hg => by
        obtain ⟨vh', hs', hy', ho'⟩ := HI.out.hul
        have h1 := (HWZ.out.own.lt g hg).1
        have : g ≠ gs := fun e => by
          rw [e] at hg
          rcases HWZ.out.own.2 with ⟨e1, -⟩ | ⟨g', cap, cur, e1, -, hh, -⟩
          · rw [e1] at hg; cases hg
          · rw [e1] at hg
            have hgg : g' = gs := by simpa [Value.ownBlock] using hg
            rw [hgg] at hh
            have e3 := HSZ.out
            have e4 : Z.heap[gs]? = some (.cells #[.int .i64 t0, .int .i64 t1] 34 (0, 0)) := e3
            rw [e4] at hh
            cases hh
        have h2 := (HWZ.out.own.lt g hg).2
        omega
      have HVB := Lib.hid hvb
      obtain ⟨Y, hY⟩ : ∃ Y, Z.drew = Y := ⟨_, rfl⟩
      have BY : Below Z.heap.size Z Y := by rw [← hY]; (repeat first | with_reducible assumption | with_reducible exact Below.refl _ _ | (with_reducible refine Below.alloc ?_ ?side _; case side => (first | omega | (with_reducible exact Below.size (by assumption)) | (simp; done) | (simp; omega))) | (with_reducible refine Below.setCell ?_ ?side _; case side => (first | omega | (with_reducible exact Below.size (by assumption)) | (simp; done) | (simp; omega))) | with_reducible refine Below.drew ?_ | with_reducible refine below_drewN ?_ _ | (with_reducible refine below_step (by assumption) ?side ?_; case side => (first | omega | (with_reducible exact Below.size (by assumption)) | (simp; done) | (simp; omega))))
      clear hgs hvb zZ HI
      refine wp_region_L (by kernel_rfl) (fun W' => (∀ j, W'.cell? ⟨yb, j, none⟩ = #[Value.slice A nr c, .slice (some ⟨b0, o0, none⟩) ns d, .slice C nk f, .int .i64 shk, vh][j]?) ∧ (∀ j, W'.cell? ⟨w.heap.size, j, none⟩ = #[Value.slice A nr c, .slice (some ⟨b0, o0, none⟩) ns d, .slice C nk f, .int .i64 shk][j]?) ∧ (∀ j, W'.cell? ⟨gs, j, none⟩ = #[Value.int .i64 t0, .int .i64 t1][j]?)) 13 ?_
      rw [hY]
      have hS := HSS.out Y BY
      refine wpAnyL_take (i := 0) (v := ?_) rfl (by kernel_rfl) (by kernel_rfl) (by kernel_rfl) (by kernel_rfl) (fun _ _ _ h => h) hS (Or.inl ⟨by rfl, ?_⟩) ?_
      rotate_left 1
      · intro w9 hw9
        obtain ⟨s0, s1, s2⟩ := hw9
        go_simp
        try with_reducible rfl
      try simp only [List.getElem_toArray, List.getElem_cons_zero, List.getElem_cons_succ, Act.put, List.setIfInBounds_toArray, List.set_cons_zero, List.set_cons_succ]
      refine wpAnyL_take (i := 1) (v := ?_) rfl (by kernel_rfl) (by kernel_rfl) (by kernel_rfl) (by kernel_rfl) (fun _ _ _ h => h) hS (Or.inl ⟨by rfl, ?_⟩) ?_
      rotate_left 1
      · intro w9 hw9
        obtain ⟨s0, s1, s2⟩ := hw9
        go_simp
        try with_reducible rfl
      try simp only [List.getElem_toArray, List.getElem_cons_zero, List.getElem_cons_succ, Act.put, List.setIfInBounds_toArray, List.set_cons_zero, List.set_cons_succ]
      refine wpAnyL_take (i := 2) (v := ?_) rfl (by kernel_rfl) (by kernel_rfl) (by kernel_rfl) (by kernel_rfl) (fun _ _ _ h => h) hS (Or.inl ⟨by rfl, ?_⟩) ?_
      rotate_left 1
      · intro w9 hw9
        obtain ⟨s0, s1, s2⟩ := hw9
        go_simp
        try with_reducible rfl
      try simp only [List.getElem_toArray, List.getElem_cons_zero, List.getElem_cons_succ, Act.put, List.setIfInBounds_toArray, List.set_cons_zero, List.set_cons_succ]
      refine wpAnyL_take (i := 3) (v := ?_) rfl (by kernel_rfl) (by kernel_rfl) (by kernel_rfl) (by kernel_rfl) (fun _ _ _ h => h) hS (Or.inl ⟨by rfl, ?_⟩) ?_
      rotate_left 1
      · intro w9 hw9
        obtain ⟨s0, s1, s2⟩ := hw9
        go_simp
        try with_reducible rfl
      try simp only [List.getElem_toArray, List.getElem_cons_zero, List.getElem_cons_succ, Act.put, List.setIfInBounds_toArray, List.set_cons_zero, List.set_cons_succ]
      refine wpAnyL_take (i := 4) (v := ?_) rfl (by kernel_rfl) (by kernel_rfl) (by kernel_rfl) (by kernel_rfl) (fun _ _ _ h => h) hS (Or.inl ⟨by rfl, ?_⟩) ?_
      rotate_left 1
      · intro w9 hw9
        obtain ⟨s0, s1, s2⟩ := hw9
        go_simp
        try with_reducible rfl
      try simp only [List.getElem_toArray, List.getElem_cons_zero, List.getElem_cons_succ, Act.put, List.setIfInBounds_toArray, List.set_cons_zero, List.set_cons_succ]
      refine wpAnyL_take (i := 5) (v := ?_) rfl (by kernel_rfl) (by kernel_rfl) (by kernel_rfl) (by kernel_rfl) (fun _ _ _ h => h) hS (Or.inl ⟨by rfl, ?_⟩) ?_
      rotate_left 1
      · intro w9 hw9
        obtain ⟨s0, s1, s2⟩ := hw9
        go_simp
        try with_reducible rfl
      try simp only [List.getElem_toArray, List.getElem_cons_zero, List.getElem_cons_succ, Act.put, List.setIfInBounds_toArray, List.set_cons_zero, List.set_cons_succ]
      refine wpAnyL_take (i := 6) (v := ?_) rfl (by kernel_rfl) (by kernel_rfl) (by kernel_rfl) (by kernel_rfl) (fun _ _ _ h => h) hS (Or.inl ⟨by rfl, ?_⟩) ?_
      rotate_left 1
      · intro w9 hw9
        obtain ⟨s0, s1, s2⟩ := hw9
        go_simp
        try with_reducible rfl
      try simp only [List.getElem_toArray, List.getElem_cons_zero, List.getElem_cons_succ, Act.put, List.setIfInBounds_toArray, List.set_cons_zero, List.set_cons_succ]
      clear hS
      refine wpAnyL_one (i := 7) (by kernel_rfl) rfl (fun K hK => ?_)
      go_simp
      go_at_call 65
      refine (HN1.out Y (hbZ.trans (BY.mono hbZ.size))).mono ?_
      rintro e w7 ⟨L7, c7, rfl, hn7, hl7, hb7⟩
      have B7 := BY.trans (hb7.mono BY.size)
      have HN7 := Lib.hid hn7
      have HL7 := Lib.hid hl7
      clear hb7 hn7 hl7
      refine hK.out _ _ (fun _ => HSS.out _ B7) (fun _ => ?_)
      clear hK K
      try simp only [List.getElem_toArray, List.getElem_cons_zero, List.getElem_cons_succ, Act.put, List.setIfInBounds_toArray, List.set_cons_zero, List.set_cons_succ]
      have hS := HSS.out _ B7
      refine wpAnyL_take (i := 8) (v := ?_) rfl (by kernel_rfl) (by kernel_rfl) (by kernel_rfl) (by kernel_rfl) (fun _ _ _ h => h) hS (Or.inl ⟨by rfl, ?_⟩) ?_
      rotate_left 1
      · intro w9 hw9
        obtain ⟨s0, s1, s2⟩ := hw9
        go_simp
        try with_reducible rfl
      try simp only [List.getElem_toArray, List.getElem_cons_zero, List.getElem_cons_succ, Act.put, List.setIfInBounds_toArray, List.set_cons_zero, List.set_cons_succ]
      clear hS
      refine wpAnyL_one (i := 9) (by kernel_rfl) rfl (fun K hK => ?_)
      go_simp
      have B8 : Below Z.heap.size Z (w7.alloc (.cells #[.slice L7 (nS rs nr ⟨t0, t1⟩).length c7] 126)) := B7.alloc B7.size _
      refine hK.out _ _ (fun _ => HSS.out _ B8) (fun _ => ?_)
      clear hK K
      try simp only [List.getElem_toArray, List.getElem_cons_zero, List.getElem_cons_succ, Act.put, List.setIfInBounds_toArray, List.set_cons_zero, List.set_cons_succ]
      obtain ⟨w8, hw8⟩ : ∃ x, w7.alloc (.cells #[.slice L7 (nS rs nr ⟨t0, t1⟩).length c7] 126) = x := ⟨_, rfl⟩
      have hs8 : SlAt encH 1 ⟨none, 0, 0⟩ w8 (some ⟨w7.heap.size, 0, none⟩) 1 [⟨L7, (nS rs nr ⟨t0, t1⟩).length, c7⟩] := by rw [← hw8]; exact sl_new encH_len rfl rfl rfl
      have zw7 := B7.size
      have zw8 : w8.heap.size = w7.heap.size + 1 := by rw [← hw8, World.size_alloc]
      rw [hw8] at B8 ⊢
      have HO7 := Lib.hid (HWZ.out.later B7)
      have HO8 := Lib.hid (own_below HWZ.out.own B8)
      refine wpAnyL_one (i := 10) (by kernel_rfl) rfl (fun K hK => ?_)
      refine step_append_T _ (d := (⟨none, 0, 0⟩ : Hd)) rfl (.tmp 20) (.tmp 25) _ rfl (yb + 1) _ 1 24 hlE8 encH_len encH_one vh vh.ownBlock k hs rfl rfl HO8.out _ 1 _ [⟨L7, (nS rs nr ⟨t0, t1⟩).length, c7⟩] rfl hs8 (by omega) (by omega) (fun v10 w10 ho10 hg10 ha10 => ?_)
      have HP10 : Hid (OwnHs8 (yb + 1) 126 w10 v10 (k + 1) (hs ++ [⟨L7, (nS rs nr ⟨t0, t1⟩).length, c7⟩]) (huL rs nr ss (k + 1))) := Lib.hid (by
        rw [huL_succ, HSP.out]
        rw [← hw8] at hg10 ha10
        exact HO7.out.push HN7.out (fun a ha => ⟨fun e => by have := (HVB.out _ e).2; have := (HL7.out a ha).1; have := BY.size; omega, (HL7.out a ha).2⟩) ho10 hg10 ha10)
      obtain ⟨A10, c10, rfl, -⟩ := HP10.out.ss
      have HIN : Hid (∀ j, j < k + 1 → ∀ a, (hAt (hs ++ [⟨L7, (nS rs nr ⟨t0, t1⟩).length, c7⟩]) j).A = some a → yb + 1 ≤ a.block) := Lib.hid (fun j hj a ha => by
        have hhl := HO7.out.hl
        rcases Nat.lt_succ_iff_lt_or_eq.1 hj with h' | rfl
        · rw [hAt_lt (by omega)] at ha; exact HBL.out j h' a ha
        · have e1 := hAt_eq (hs := hs) (h := (⟨L7, (nS rs nr ⟨t0, t1⟩).length, c7⟩ : Hd))
          rw [hhl] at e1
          rw [e1] at ha
          have := (HL7.out a ha).1
          have := BY.size
          omega)
      have ky10 : Blk w10 yb 122 #[Value.slice A nr c, .slice (some ⟨b0, o0, none⟩) ns d, .slice C nk f, .int .i64 shk, vh] := (HYZ.out.below B8 HYZ.out.lt).grown hg10 (fun e => by have := (HVB.out _ e.symm).1; omega)
      have ko10 : Blk w10 w.heap.size 40 #[Value.slice A nr c, .slice (some ⟨b0, o0, none⟩) ns d, .slice C nk f, .int .i64 shk] := (HOZ.out.below B8 HOZ.out.lt).grown hg10 (fun e => by have := (HVB.out _ e.symm).1; omega)
      have ks10 : Blk w10 gs 34 #[.int .i64 t0, .int .i64 t1] := (HSZ.out.below B8 HSZ.out.lt).grown hg10 (fun e => by have := (HVB.out _ e.symm).2; omega)
      have HB10 : Hid (Below w.heap.size w w10) := Lib.hid (Below.grown (hbZ.trans (B8.mono hbZ.size)) hg10 (by omega) (fun g hg => by have := (HVB.out g hg).1; omega))
      have z10 : yb + 1 ≤ w10.heap.size := by have := hg10.size; omega
      clear ho10 hg10 ha10 hs8 hw8
      have hS10 := And.intro ky10.cell (And.intro ko10.cell ks10.cell)
      have HKY := Lib.hid ky10
      have HKO := Lib.hid ko10
      have HS10 := Lib.hid hS10
      have fy10 := ky10.frozen
      have cy10 := ky10.cell
      have ly10 := ky10.lt
      clear ky10 ko10 ks10
      refine hK.out _ _ (fun _ => hS10) (fun _ => ?_)
      clear hS10
      clear hK K
      try simp only [List.getElem_toArray, List.getElem_cons_zero, List.getElem_cons_succ, Act.put, List.setIfInBounds_toArray, List.set_cons_zero, List.set_cons_succ]
      refine wpAnyL_one (i := 11) (by kernel_rfl) rfl (fun K hK => ?_)
      go_simp
      refine hK.out _ _ (fun _ => HS10.out) (fun _ => ?_)
      clear hK K
      try simp only [List.getElem_toArray, List.getElem_cons_zero, List.getElem_cons_succ, Act.put, List.setIfInBounds_toArray, List.set_cons_zero, List.set_cons_succ]
      refine wpAnyL_one (i := 12) (by kernel_rfl) rfl (fun K hK => ?_)
      go_simp
      refine hK.out _ _ (fun _ => HS10.out) (fun _ => ?_)
      clear hK K
      try simp only [List.getElem_toArray, List.getElem_cons_zero, List.getElem_cons_succ, Act.put, List.setIfInBounds_toArray, List.set_cons_zero, List.set_cons_succ]
      refine wpAnyL_one (i := 13) (by kernel_rfl) rfl (fun K hK => ?_)
      go_simp
      refine hK.out _ _ (fun h => absurd rfl h) (fun _ => ?_)
      clear hK K
      refine wpAnyL_done (by kernel_rfl) ?_ _
      have HYN := Lib.hid (HKY.out.set_ 4 (.slice A10 (k + 1) c10))
      have HON := Lib.hid (HKO.out.far (p := ⟨yb, 4, none⟩) (by show w.heap.size ≠ yb; omega) (.slice A10 (k + 1) c10))
      have HPN : Hid (OwnHs8 (yb + 1) 126 (w10.setCell ⟨yb, 4, none⟩ (.slice A10 (k + 1) c10)) (.slice A10 (k + 1) c10) (k + 1) (hs ++ [⟨L7, (nS rs nr ⟨t0, t1⟩).length, c7⟩]) (huL rs nr ss (k + 1))) := Lib.hid (HP10.out.far8 (p := ⟨yb, 4, none⟩) (fun g hg => by have := (HP10.out.own.lt g hg).1; show g ≠ yb; omega) (fun j hj a ha => by have := HIN.out j hj a ha; show a.block ≠ yb; omega) _)
      have HBN := Lib.hid (Below.setCell (p := ⟨yb, 4, none⟩) HB10.out (by show w.heap.size ≤ yb; omega) (.slice A10 (k + 1) c10))
      clear cy10 fy10
      go_wp2_with fail
      go_roundw
      case rel => exact ⟨k + 1, by omega, by go_num, Lib.hid ⟨⟨.slice A10 (k + 1) c10, _, HYN.out, HPN.out, HIN.out⟩, HON.out, HBN.out⟩, by simpa using z10⟩
      case measure => simp [intOf]; omega
    · obtain rfl : k = ns := by omega
      have hqB : decide (((k : Nat) : Int) < k) = false := decide_eq_false (by omega)
      obtain ⟨Ah, ch, rfl, hss⟩ := hown.ss
      have HSS := Lib.hid hss
      have HYK := Lib.hid hyk
      clear hss hown hyk
      go_wp2_with fail
      go_ret
      exact ⟨yb, Ah, ch, hs, rfl, by have := HYB.out; omega, ⟨HYK.out, HSS.out⟩, hbw⟩

end Go.Proofs.YtcbeiadimchknaaGreat
