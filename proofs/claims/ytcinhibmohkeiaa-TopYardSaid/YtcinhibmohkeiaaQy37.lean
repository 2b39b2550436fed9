/- Load of levers (layer 3): the hull of the loads of all truths. -/
import Derived.Test.YtcinhibmohkeiaaQy33
import Derived.Test.YtcinhibmohkeiaaQy08
import Derived.Test.YtcinhibmohkeiaaQy35
import Derived.BigRegionIn
import Derived.Shelf.RegionOpen
import Derived.Deep.RegionHeld3
import Derived.Deep.DeepCutAuto
namespace Go.Proofs.Ytcinhibmohkeiaa
open Go.RowKit
open Go.Sort (grow)
set_option linter.unusedVariables false
set_option linter.unusedSimpArgs false

attribute [local go_sem] Oper.semAt_some
/-- where no operation panics -/
def noPanic (Q : Exit → Act → World → Prop) : Exit → Act → World → Prop
  | .panic _, _, _ => False
  | e, a, w => Q e a w
theorem wp_region_L0 {P : Program} {ops : Array Oper} {Q : Exit → Act → World → Prop} {id : Nat} {a : Act} {w : World} (hm : P.follows .mixedOrders = true) (S : World → Prop) (m : Nat) (h : wpAnyL P ops (noPanic Q) S m ops.size (Array.replicate ops.size false) a w.drew) : (Code.region id ops true).wp P Q a w :=
  Code.wp_mono (fun e a w h => by cases e <;> first | exact h | exact h.elim) (wp_region_L hm S m h)
theorem wpAnyL_done0 {P : Program} {ops : Array Oper} {Q : Exit → Act → World → Prop} {S : World → Prop} {m : Nat} {listed : Array Bool} {a : Act} {w : World} (hr : Region.ready .any ops listed = []) (h : Q .normal a w) : ∀ fuel, wpAnyL P ops (noPanic Q) S m fuel listed a w :=
  wpAnyL_done hr h
def ldP (nl nb : Nat) (wa l0 l1 wrg : Int) (lv : List Lv) (bl : List Bal) (wt mi : Int) : Sp × Int :=
  bif opE nl nb wa l0 l1 wrg lv bl (ask3 wt mi 0) == 0 then (hu3 wa (abK lv nl) wt mi (trS lv l0 l1 wa (abK lv nl) wrg bl) (trS lv l0 l1 wa (abK lv nl) wrg bl).length, 0) else (⟨0, 0⟩, opE nl nb wa l0 l1 wrg lv bl (ask3 wt mi 0))
set_option maxRecDepth 100000 in
set_option maxHeartbeats 3200000 in
theorem Load_c (Al : Option Addr) (nl cl : Nat) (wa l0 l1 : Int) (Ab : Option Addr) (nb cb : Nat) (wrg : Int) (lv : List Lv) (bl : List Bal) (wt mi : Int) (w : World) (hn : nl ≤ 40) (hnb : nb ≤ 40) (HL : LvsAt w Al nl lv) (HB : BasAt w Ab nb bl) :
    Calls Try.prog 24 #[.agg #[.slice Al nl cl, .int .i64 wa, .int .i64 l0, .int .i64 l1, .slice Ab nb cb, .int .i64 wrg], .int .i64 wt, .int .i64 mi] w fun e w' => e = .returned (.tuple #[.agg #[.int .i64 (ldP nl nb wa l0 l1 wrg lv bl wt mi).1.lo, .int .i64 (ldP nl nb wa l0 l1 wrg lv bl wt mi).1.hi], .int .i64 (ldP nl nb wa l0 l1 wrg lv bl wt mi).2]) ∧ Below w.heap.size w w' := by
  have hop := Lib.hid (fun V (hV : Below w.heap.size w V) => open_c Al nl cl wa l0 l1 Ab nb cb wrg lv bl (ask3 wt mi 0) V hn hnb (HL.later hV) (HB.later hV))
  have hak := Lib.hid (fun V => isAsk3_c wt mi 0 V)
  have HLI := Lib.hid HL
  have HBI := Lib.hid HB
  have hl := HL.1
  have hb := HB.1
  clear HL HB
  cases ez : opE nl nb wa l0 l1 wrg lv bl (ask3 wt mi 0) == 0
  · have e1 : ldP nl nb wa l0 l1 wrg lv bl wt mi = (⟨0, 0⟩, opE nl nb wa l0 l1 wrg lv bl (ask3 wt mi 0)) := by simp [ldP, ez]
    rw [e1]
    obtain ⟨z, hz⟩ : ∃ z, opE nl nb wa l0 l1 wrg lv bl (ask3 wt mi 0) = z := ⟨_, rfl⟩
    obtain ⟨ak, hak'⟩ : ∃ x, ask3 wt mi 0 = x := ⟨_, rfl⟩
    rw [hz] at hop ez ⊢
    rw [hak'] at hop hak
    have hz0 : (z != 0) = true := by simpa [bne] using ez
    have hz1 : z ≠ 0 := by simpa using ez
    have HZ := Lib.hid hz1
    have hop0 := Lib.hid (fun V (hV : Below w.heap.size w V) => (hop.out V hV).mono (fun e w' (h : OpPost _ _ _ _ _ _ _ _ _ _ _ _ _ V e w') => show e = .returned (.tuple #[.pointer none, .int .i64 z]) ∧ Below V.heap.size V w' from by
      obtain ⟨h1, (⟨-, h2⟩ | ⟨h2, -⟩)⟩ := h
      · exact ⟨h2, h1⟩
      · exact absurd h2 HZ.out))
    clear e1 hz hak' hl hb ez hz1 hop
    go_enter Try.func24, Try.ntmps24
    go_upto_region 1 with (fail)
    go_name_world W hW
    obtain ⟨hB, hz⟩ := al4 hW
    obtain ⟨l_0, q_0, f_0⟩ := al4_0 hW
    obtain ⟨l_1, q_1, f_1⟩ := al4_1 hW
    obtain ⟨l_2, q_2, f_2⟩ := al4_2 hW
    obtain ⟨l_3, q_3, f_3⟩ := al4_3 hW
    have HZ := Lib.hid hz
    have zs := hB.size
    clear hW hz
    have HSS : Hid (∀ W', Below W.heap.size W W' → (∀ j, W'.cell? ⟨w.heap.size, j, none⟩ = #[Value.slice Al nl cl, .int .i64 wa, .int .i64 l0, .int .i64 l1, .slice Ab nb cb, .int .i64 wrg][j]?) ∧ W'.cell? ⟨w.heap.size + 1, 0, none⟩ = some (.int .i64 wt) ∧ W'.cell? ⟨w.heap.size + 1 + 1, 0, none⟩ = some (.int .i64 mi)) := Lib.hid (fun W' h => ⟨fun j => (h.cell (p := ⟨w.heap.size, j, none⟩) l_0).trans (q_0 j), (h.cell (p := ⟨w.heap.size + 1, 0, none⟩) l_1).trans (q_1 0), (h.cell (p := ⟨w.heap.size + 1 + 1, 0, none⟩) l_2).trans (q_2 0)⟩)
    go_cut [8, 9] (fun t8 t9 (V : World) => t9 = .int .i64 z ∧ Hid (Below W.heap.size W V))
    case first =>
      as_aux_lemma =>
        clear q_0 q_1 q_2 q_3
        refine wp_region_L0 (by kernel_rfl) (fun W' => (∀ j, W'.cell? ⟨w.heap.size, j, none⟩ = #[Value.slice Al nl cl, .int .i64 wa, .int .i64 l0, .int .i64 l1, .slice Ab nb cb, .int .i64 wrg][j]?) ∧ W'.cell? ⟨w.heap.size + 1, 0, none⟩ = some (.int .i64 wt) ∧ W'.cell? ⟨w.heap.size + 1 + 1, 0, none⟩ = some (.int .i64 mi)) 99 ?_
        obtain ⟨Y, hY⟩ : ∃ Y, W.drew = Y := ⟨_, rfl⟩
        rw [hY]
        have BY : Below W.heap.size W Y := by rw [← hY]; (repeat first | with_reducible assumption | with_reducible exact Below.refl _ _ | (with_reducible refine Below.alloc ?_ ?side _; case side => (first | omega | (with_reducible exact Below.size (by assumption)) | (simp; done) | (simp; omega))) | (with_reducible refine Below.setCell ?_ ?side _; case side => (first | omega | (with_reducible exact Below.size (by assumption)) | (simp; done) | (simp; omega))) | with_reducible refine Below.drew ?_ | with_reducible refine below_drewN ?_ _ | (with_reducible refine below_step (by assumption) ?side ?_; case side => (first | omega | (with_reducible exact Below.size (by assumption)) | (simp; done) | (simp; omega))))
        clear hY
        have hS := HSS.out Y BY
        refine wpAnyL_take (i := 0) (v := ?_) rfl (by kernel_rfl) (by kernel_rfl) (by kernel_rfl) (by kernel_rfl) (fun _ _ _ h => h) hS (Or.inl ⟨by rfl, ?_⟩) ?_
        rotate_left 1
        · intro w9 hw9
          obtain ⟨k0, k1, k2⟩ := hw9
          go_simp
          try with_reducible rfl
        try simp only [List.getElem_toArray, List.getElem_cons_zero, Act.put, List.setIfInBounds_toArray, List.set_cons_zero, List.set_cons_succ]
        refine wpAnyL_take (i := 1) (v := ?_) rfl (by kernel_rfl) (by kernel_rfl) (by kernel_rfl) (by kernel_rfl) (fun _ _ _ h => h) hS (Or.inl ⟨by rfl, ?_⟩) ?_
        rotate_left 1
        · intro w9 hw9
          obtain ⟨k0, k1, k2⟩ := hw9
          go_simp
          try with_reducible rfl
        try simp only [List.getElem_toArray, List.getElem_cons_zero, List.getElem_cons_succ, Act.put, List.setIfInBounds_toArray, List.set_cons_zero, List.set_cons_succ]
        refine wpAnyL_take (i := 2) (v := ?_) rfl (by kernel_rfl) (by kernel_rfl) (by kernel_rfl) (by kernel_rfl) (fun _ _ _ h => h) hS (Or.inl ⟨by rfl, ?_⟩) ?_
        rotate_left 1
        · intro w9 hw9
          obtain ⟨k0, k1, k2⟩ := hw9
          go_simp
          try with_reducible rfl
        try simp only [List.getElem_toArray, List.getElem_cons_zero, List.getElem_cons_succ, Act.put, List.setIfInBounds_toArray, List.set_cons_zero, List.set_cons_succ]
        clear hS
        refine wpAnyL_two (i := 3) (j := 8) (by kernel_rfl) rfl rfl (fun K hK => ?_) (fun K hK => ?_)
        · skip
          first | (go_simp; go_at_call 41) | (refine wpAnyL_one (i := 3) (by kernel_rfl) rfl (fun K hK => ?_); go_simp; go_at_call 41)
          refine (hak.out _).mono ?_
          rintro e w' ⟨rfl, rfl⟩
          refine hK.out _ _ (fun _ => HSS.out _ BY) (fun _ => ?_)
          clear hK K
          try simp only [List.getElem_toArray, List.getElem_cons_zero, List.getElem_cons_succ, Act.put, List.setIfInBounds_toArray, List.set_cons_zero, List.set_cons_succ]
          refine wpAnyL_two (i := 4) (j := 8) (by kernel_rfl) rfl rfl (fun K hK => ?_) (fun K hK => ?_)
          · skip
            first | (go_simp; go_at_call 36) | (refine wpAnyL_one (i := 4) (by kernel_rfl) rfl (fun K hK => ?_); go_simp; go_at_call 36)
            refine (hop0.out Y (hB.trans (Below.mono BY zs))).mono ?_
            rintro e w1 ⟨rfl, hb1⟩
            have B1 := Below.trans BY (hb1.mono (Below.size BY))
            have HB1 := Lib.hid hb1
            skip
            clear hb1
            refine hK.out _ _ (fun _ => HSS.out _ B1) (fun _ => ?_)
            clear hK K
            try simp only [List.getElem_toArray, List.getElem_cons_zero, List.getElem_cons_succ, Act.put, List.setIfInBounds_toArray, List.set_cons_zero, List.set_cons_succ]
            have hS := HSS.out w1 B1
            refine wpAnyL_take (i := 5) (v := ?_) rfl (by kernel_rfl) (by kernel_rfl) (by kernel_rfl) (by kernel_rfl) (fun _ _ _ h => h) hS (Or.inl ⟨by rfl, ?_⟩) ?_
            rotate_left 1
            · intro w9 hw9
              obtain ⟨k0, k1, k2⟩ := hw9
              go_simp
              try with_reducible rfl
            try simp only [List.getElem_toArray, List.getElem_cons_zero, List.getElem_cons_succ, Act.put, List.setIfInBounds_toArray, List.set_cons_zero, List.set_cons_succ]
            refine wpAnyL_take (i := 6) (v := ?_) rfl (by kernel_rfl) (by kernel_rfl) (by kernel_rfl) (by kernel_rfl) (fun _ _ _ h => h) hS (Or.inl ⟨by rfl, ?_⟩) ?_
            rotate_left 1
            · intro w9 hw9
              obtain ⟨k0, k1, k2⟩ := hw9
              go_simp
              try with_reducible rfl
            try simp only [List.getElem_toArray, List.getElem_cons_zero, List.getElem_cons_succ, Act.put, List.setIfInBounds_toArray, List.set_cons_zero, List.set_cons_succ]
            refine wpAnyL_take (i := 7) (v := ?_) rfl (by kernel_rfl) (by kernel_rfl) (by kernel_rfl) (by kernel_rfl) (fun _ _ _ h => h) hS (Or.inl ⟨by rfl, ?_⟩) ?_
            rotate_left 1
            · intro w9 hw9
              obtain ⟨k0, k1, k2⟩ := hw9
              go_simp
              try with_reducible rfl
            try simp only [List.getElem_toArray, List.getElem_cons_zero, List.getElem_cons_succ, Act.put, List.setIfInBounds_toArray, List.set_cons_zero, List.set_cons_succ]
            clear hS
            try refine wpAnyL_one (i := 8) (by kernel_rfl) rfl (fun K hK => ?_)
            go_simp
            obtain ⟨Z, hZ⟩ : ∃ Z, World.alloc w1 (.cells #[.pointer none] 82) = Z := ⟨_, rfl⟩
            rw [hZ]
            have BZ0 : Below (w1).heap.size w1 Z := (al1 hZ).1
            have BZ : Below W.heap.size W Z := Below.trans B1 (BZ0.mono (Below.size B1))
            have HZ0 : Hid (Blk Z (w1).heap.size 82 #[.pointer none]) := by rw [← hZ]; exact Lib.hid (Blk.new _ _ _)
            clear hZ
            refine hK.out _ _ (fun _ => HSS.out _ BZ) (fun _ => ?_)
            clear hK K
            try simp only [List.getElem_toArray, List.getElem_cons_zero, List.getElem_cons_succ, Act.put, List.setIfInBounds_toArray, List.set_cons_zero, List.set_cons_succ]
            have kz := (HZ0).out.cell
            have fz := (HZ0).out.frozen
            have lz := (HZ0).out.lt
            refine wpAnyL_one (i := 9) (by kernel_rfl) rfl (fun K hK => ?_)
            go_simp
            refine hK.out _ _ (fun _ => HSS.out _ (Below.setCell (p := ⟨w1.heap.size, 0, none⟩) BZ B1.size _)) (fun _ => ?_)
            clear hK K
            try simp only [List.getElem_toArray, List.getElem_cons_zero, List.getElem_cons_succ, Act.put, List.setIfInBounds_toArray, List.set_cons_zero, List.set_cons_succ]
            clear kz fz lz
            refine wpAnyL_one (i := 10) (by kernel_rfl) rfl (fun K hK => ?_)
            go_simp
            refine hK.out _ _ (fun _ => HSS.out _ (Below.setCell (p := ⟨w1.heap.size, 0, none⟩) BZ B1.size _)) (fun _ => ?_)
            clear hK K
            refine wpAnyL_done0 (by kernel_rfl) ?_ _
            go_wp2_with fail
            go_meet
            exact ⟨rfl, Lib.hid (Below.setCell (p := ⟨w1.heap.size, 0, none⟩) BZ B1.size _)⟩
          · skip
            try refine wpAnyL_one (i := 8) (by kernel_rfl) rfl (fun K hK => ?_)
            go_simp
            obtain ⟨Z, hZ⟩ : ∃ Z, World.alloc Y (.cells #[.pointer none] 82) = Z := ⟨_, rfl⟩
            rw [hZ]
            have BZ0 : Below (Y).heap.size Y Z := (al1 hZ).1
            have BZ : Below W.heap.size W Z := Below.trans BY (BZ0.mono (Below.size BY))
            have HZ0 : Hid (Blk Z (Y).heap.size 82 #[.pointer none]) := by rw [← hZ]; exact Lib.hid (Blk.new _ _ _)
            clear hZ
            refine hK.out _ _ (fun _ => HSS.out _ BZ) (fun _ => ?_)
            clear hK K
            try simp only [List.getElem_toArray, List.getElem_cons_zero, List.getElem_cons_succ, Act.put, List.setIfInBounds_toArray, List.set_cons_zero, List.set_cons_succ]
            first | (go_simp; go_at_call 36) | (refine wpAnyL_one (i := 4) (by kernel_rfl) rfl (fun K hK => ?_); go_simp; go_at_call 36)
            refine (hop0.out Z (hB.trans (Below.mono BZ zs))).mono ?_
            rintro e w1 ⟨rfl, hb1⟩
            have B1 := Below.trans BZ (hb1.mono (Below.size BZ))
            have HB1 := Lib.hid hb1
            skip
            clear hb1
            refine hK.out _ _ (fun _ => HSS.out _ B1) (fun _ => ?_)
            clear hK K
            try simp only [List.getElem_toArray, List.getElem_cons_zero, List.getElem_cons_succ, Act.put, List.setIfInBounds_toArray, List.set_cons_zero, List.set_cons_succ]
            have hS := HSS.out w1 B1
            refine wpAnyL_take (i := 5) (v := ?_) rfl (by kernel_rfl) (by kernel_rfl) (by kernel_rfl) (by kernel_rfl) (fun _ _ _ h => h) hS (Or.inl ⟨by rfl, ?_⟩) ?_
            rotate_left 1
            · intro w9 hw9
              obtain ⟨k0, k1, k2⟩ := hw9
              go_simp
              try with_reducible rfl
            try simp only [List.getElem_toArray, List.getElem_cons_zero, List.getElem_cons_succ, Act.put, List.setIfInBounds_toArray, List.set_cons_zero, List.set_cons_succ]
            refine wpAnyL_take (i := 6) (v := ?_) rfl (by kernel_rfl) (by kernel_rfl) (by kernel_rfl) (by kernel_rfl) (fun _ _ _ h => h) hS (Or.inl ⟨by rfl, ?_⟩) ?_
            rotate_left 1
            · intro w9 hw9
              obtain ⟨k0, k1, k2⟩ := hw9
              go_simp
              try with_reducible rfl
            try simp only [List.getElem_toArray, List.getElem_cons_zero, List.getElem_cons_succ, Act.put, List.setIfInBounds_toArray, List.set_cons_zero, List.set_cons_succ]
            refine wpAnyL_take (i := 7) (v := ?_) rfl (by kernel_rfl) (by kernel_rfl) (by kernel_rfl) (by kernel_rfl) (fun _ _ _ h => h) hS (Or.inl ⟨by rfl, ?_⟩) ?_
            rotate_left 1
            · intro w9 hw9
              obtain ⟨k0, k1, k2⟩ := hw9
              go_simp
              try with_reducible rfl
            try simp only [List.getElem_toArray, List.getElem_cons_zero, List.getElem_cons_succ, Act.put, List.setIfInBounds_toArray, List.set_cons_zero, List.set_cons_succ]
            clear hS
            have HZ1 := Lib.hid (HZ0.out.below HB1.out HZ0.out.lt)
            have kz := (HZ1).out.cell
            have fz := (HZ1).out.frozen
            have lz := (HZ1).out.lt
            refine wpAnyL_one (i := 9) (by kernel_rfl) rfl (fun K hK => ?_)
            go_simp
            refine hK.out _ _ (fun _ => HSS.out _ (Below.setCell (p := ⟨Y.heap.size, 0, none⟩) B1 BY.size _)) (fun _ => ?_)
            clear hK K
            try simp only [List.getElem_toArray, List.getElem_cons_zero, List.getElem_cons_succ, Act.put, List.setIfInBounds_toArray, List.set_cons_zero, List.set_cons_succ]
            clear kz fz lz
            refine wpAnyL_one (i := 10) (by kernel_rfl) rfl (fun K hK => ?_)
            go_simp
            refine hK.out _ _ (fun _ => HSS.out _ (Below.setCell (p := ⟨Y.heap.size, 0, none⟩) B1 BY.size _)) (fun _ => ?_)
            clear hK K
            refine wpAnyL_done0 (by kernel_rfl) ?_ _
            go_wp2_with fail
            go_meet
            exact ⟨rfl, Lib.hid (Below.setCell (p := ⟨Y.heap.size, 0, none⟩) B1 BY.size _)⟩
        · skip
          try refine wpAnyL_one (i := 8) (by kernel_rfl) rfl (fun K hK => ?_)
          go_simp
          obtain ⟨Z, hZ⟩ : ∃ Z, World.alloc Y (.cells #[.pointer none] 82) = Z := ⟨_, rfl⟩
          rw [hZ]
          have BZ0 : Below (Y).heap.size Y Z := (al1 hZ).1
          have BZ : Below W.heap.size W Z := Below.trans BY (BZ0.mono (Below.size BY))
          have HZ0 : Hid (Blk Z (Y).heap.size 82 #[.pointer none]) := by rw [← hZ]; exact Lib.hid (Blk.new _ _ _)
          clear hZ
          refine hK.out _ _ (fun _ => HSS.out _ BZ) (fun _ => ?_)
          clear hK K
          try simp only [List.getElem_toArray, List.getElem_cons_zero, List.getElem_cons_succ, Act.put, List.setIfInBounds_toArray, List.set_cons_zero, List.set_cons_succ]
          first | (go_simp; go_at_call 41) | (refine wpAnyL_one (i := 3) (by kernel_rfl) rfl (fun K hK => ?_); go_simp; go_at_call 41)
          refine (hak.out _).mono ?_
          rintro e w' ⟨rfl, rfl⟩
          refine hK.out _ _ (fun _ => HSS.out _ BZ) (fun _ => ?_)
          clear hK K
          try simp only [List.getElem_toArray, List.getElem_cons_zero, List.getElem_cons_succ, Act.put, List.setIfInBounds_toArray, List.set_cons_zero, List.set_cons_succ]
          first | (go_simp; go_at_call 36) | (refine wpAnyL_one (i := 4) (by kernel_rfl) rfl (fun K hK => ?_); go_simp; go_at_call 36)
          refine (hop0.out Z (hB.trans (Below.mono BZ zs))).mono ?_
          rintro e w1 ⟨rfl, hb1⟩
          have B1 := Below.trans BZ (hb1.mono (Below.size BZ))
          have HB1 := Lib.hid hb1
          skip
          clear hb1
          refine hK.out _ _ (fun _ => HSS.out _ B1) (fun _ => ?_)
          clear hK K
          try simp only [List.getElem_toArray, List.getElem_cons_zero, List.getElem_cons_succ, Act.put, List.setIfInBounds_toArray, List.set_cons_zero, List.set_cons_succ]
          have hS := HSS.out w1 B1
          refine wpAnyL_take (i := 5) (v := ?_) rfl (by kernel_rfl) (by kernel_rfl) (by kernel_rfl) (by kernel_rfl) (fun _ _ _ h => h) hS (Or.inl ⟨by rfl, ?_⟩) ?_
          rotate_left 1
          · intro w9 hw9
            obtain ⟨k0, k1, k2⟩ := hw9
            go_simp
            try with_reducible rfl
          try simp only [List.getElem_toArray, List.getElem_cons_zero, List.getElem_cons_succ, Act.put, List.setIfInBounds_toArray, List.set_cons_zero, List.set_cons_succ]
          refine wpAnyL_take (i := 6) (v := ?_) rfl (by kernel_rfl) (by kernel_rfl) (by kernel_rfl) (by kernel_rfl) (fun _ _ _ h => h) hS (Or.inl ⟨by rfl, ?_⟩) ?_
          rotate_left 1
          · intro w9 hw9
            obtain ⟨k0, k1, k2⟩ := hw9
            go_simp
            try with_reducible rfl
          try simp only [List.getElem_toArray, List.getElem_cons_zero, List.getElem_cons_succ, Act.put, List.setIfInBounds_toArray, List.set_cons_zero, List.set_cons_succ]
          refine wpAnyL_take (i := 7) (v := ?_) rfl (by kernel_rfl) (by kernel_rfl) (by kernel_rfl) (by kernel_rfl) (fun _ _ _ h => h) hS (Or.inl ⟨by rfl, ?_⟩) ?_
          rotate_left 1
          · intro w9 hw9
            obtain ⟨k0, k1, k2⟩ := hw9
            go_simp
            try with_reducible rfl
          try simp only [List.getElem_toArray, List.getElem_cons_zero, List.getElem_cons_succ, Act.put, List.setIfInBounds_toArray, List.set_cons_zero, List.set_cons_succ]
          clear hS
          have HZ1 := Lib.hid (HZ0.out.below HB1.out HZ0.out.lt)
          have kz := (HZ1).out.cell
          have fz := (HZ1).out.frozen
          have lz := (HZ1).out.lt
          refine wpAnyL_one (i := 9) (by kernel_rfl) rfl (fun K hK => ?_)
          go_simp
          refine hK.out _ _ (fun _ => HSS.out _ (Below.setCell (p := ⟨Y.heap.size, 0, none⟩) B1 BY.size _)) (fun _ => ?_)
          clear hK K
          try simp only [List.getElem_toArray, List.getElem_cons_zero, List.getElem_cons_succ, Act.put, List.setIfInBounds_toArray, List.set_cons_zero, List.set_cons_succ]
          clear kz fz lz
          refine wpAnyL_one (i := 10) (by kernel_rfl) rfl (fun K hK => ?_)
          go_simp
          refine hK.out _ _ (fun _ => HSS.out _ (Below.setCell (p := ⟨Y.heap.size, 0, none⟩) B1 BY.size _)) (fun _ => ?_)
          clear hK K
          refine wpAnyL_done0 (by kernel_rfl) ?_ _
          go_wp2_with fail
          go_meet
          exact ⟨rfl, Lib.hid (Below.setCell (p := ⟨Y.heap.size, 0, none⟩) B1 BY.size _)⟩
    case rest =>
    obtain ⟨rfl, HBV⟩ := hcut
    obtain ⟨V, hV⟩ : ∃ Z, wc = Z := ⟨_, rfl⟩
    rw [hV] at HBV ⊢
    clear hV
    have BV := HBV.out
    obtain ⟨hcV, hfV⟩ := bcell BV
    have lV := Nat.lt_of_lt_of_le l_3 BV.size
    have y0 := (hcV _ 0 l_3).trans (q_3 0)
    have y1 := (hcV _ 1 l_3).trans (q_3 1)
    have u0 := (hfV _ 0 l_3).trans (f_3 0)
    have u1 := (hfV _ 1 l_3).trans (f_3 1)
    have BB := hB.trans (BV.mono zs)
    clear hcV hfV q_0 q_1 q_2 q_3
    go_wp2_with fail
    obtain ⟨d0, d1⟩ := two_cells (u := .int .i64 0) (v := .int .i64 0) (by simp) y0 y1
    exact bodyPost_ret (v := .tuple #[.agg #[.int .i64 0, .int .i64 0], .int .i64 z]) (by simp [results, Try.results24, go_sem, d0, d1]) rfl ⟨rfl, by (repeat first | with_reducible assumption | with_reducible exact Below.refl _ _ | (with_reducible refine Below.alloc ?_ ?side _; case side => (first | omega | (with_reducible exact Below.size (by assumption)) | (simp; done) | (simp; omega))) | (with_reducible refine Below.setCell ?_ ?side _; case side => (first | omega | (with_reducible exact Below.size (by assumption)) | (simp; done) | (simp; omega))) | with_reducible refine Below.drew ?_ | with_reducible refine below_drewN ?_ _ | (with_reducible refine below_step (by assumption) ?side ?_; case side => (first | omega | (with_reducible exact Below.size (by assumption)) | (simp; done) | (simp; omega))))⟩
  obtain ⟨ok, hlg⟩ := okM_of (opE_ck ez) hl hb
  have e1 : ldP nl nb wa l0 l1 wrg lv bl wt mi = (hu3 wa (abK lv nl) wt mi (trS lv l0 l1 wa (abK lv nl) wrg bl) (trS lv l0 l1 wa (abK lv nl) wrg bl).length, 0) := by simp [ldP, ez]
  rw [e1]
  obtain ⟨ys, hys⟩ : ∃ ys, trS lv l0 l1 wa (abK lv nl) wrg bl = ys := ⟨_, rfl⟩
  rw [hys]
  have HIT := Lib.hid (fun gm => truths_c gm Al nl cl wa l0 l1 Ab nb cb wrg (abK lv nl) lv bl ok)
  rw [hys] at HIT
  have hop1 := Lib.hid (fun V (hV : Below w.heap.size w V) => (hop.out V hV).mono (fun e w' (h : OpPost _ _ _ _ _ _ _ _ _ _ _ _ _ V e w') => show ∃ gm, e = .returned (.tuple #[.pointer (some ⟨gm, 0, none⟩), .int .i64 0]) ∧ V.heap.size ≤ gm ∧ MemM gm 95 Al nl cl wa l0 l1 Ab nb cb wrg (abK lv nl) lv bl w' ∧ Below V.heap.size V w' from by
    have hz : opE nl nb wa l0 l1 wrg lv bl (ask3 wt mi 0) = 0 := by simpa using ez
    obtain ⟨h1, (⟨h2, -⟩ | ⟨-, gm, h3, h4, h5⟩)⟩ := h
    · exact absurd hz h2
    · exact ⟨gm, h3, h4, h5, h1⟩))
  have HOK := Lib.hid ok
  have hask : ask3 wt mi 0 = true := by
    cases e : ask3 wt mi 0
    · simp [opE, e, opE_ck ez] at ez
    · rfl
  rw [hask] at hop1 hak
  have HAS := Lib.hid hask
  clear ez hl hb hlg ok hop e1 hask
  obtain ⟨ab, hab⟩ : ∃ x, abK lv nl = x := ⟨_, rfl⟩
  rw [hab] at HIT hop1 HOK ⊢
  have HYS := Lib.hid hys
  clear hys
  refine (callsIn_wide (n := 6)).1 (callsIn_of_wp_marks Try.func24 rfl trivial ?_ rfl)
  simp only [Try.ntmps24, List.size_toArray, List.length_cons, List.length_nil, Nat.reduceAdd, Nat.reduceSub, Array.replicate_succ, Array.replicate_zero, List.push_toArray, List.append_toArray, List.nil_append, List.cons_append]
  refine wpIn_wide.2 ?_
  go_upto_region 1 with (fail)
  go_name_world W hW
  obtain ⟨hB, hz⟩ := al4 hW
  obtain ⟨l_0, q_0, f_0⟩ := al4_0 hW
  obtain ⟨l_1, q_1, f_1⟩ := al4_1 hW
  obtain ⟨l_2, q_2, f_2⟩ := al4_2 hW
  obtain ⟨l_3, q_3, f_3⟩ := al4_3 hW
  have HZ := Lib.hid hz
  have zs := hB.size
  clear hW hz
  have HSS : Hid (∀ W', Below W.heap.size W W' → (∀ j, W'.cell? ⟨w.heap.size, j, none⟩ = #[Value.slice Al nl cl, .int .i64 wa, .int .i64 l0, .int .i64 l1, .slice Ab nb cb, .int .i64 wrg][j]?) ∧ W'.cell? ⟨w.heap.size + 1, 0, none⟩ = some (.int .i64 wt) ∧ W'.cell? ⟨w.heap.size + 1 + 1, 0, none⟩ = some (.int .i64 mi)) := Lib.hid (fun W' h => ⟨fun j => (h.cell (p := ⟨w.heap.size, j, none⟩) l_0).trans (q_0 j), (h.cell (p := ⟨w.heap.size + 1, 0, none⟩) l_1).trans (q_1 0), (h.cell (p := ⟨w.heap.size + 1 + 1, 0, none⟩) l_2).trans (q_2 0)⟩)
  go_cut [8, 9] from 15 to 22 (fun t8 t9 (V : World) => ∃ g8 gm : Nat, t8 = .pointer (some ⟨g8, 0, none⟩) ∧ t9 = .int .i64 0 ∧ W.heap.size ≤ g8 ∧ g8 < V.heap.size ∧ W.heap.size ≤ gm ∧ Hid (Below W.heap.size W V) ∧ Hid (V.cell? ⟨g8, 0, none⟩ = some (.pointer (some ⟨gm, 0, none⟩))) ∧ Hid (Blk V gm 95 #[.slice Al nl cl, .int .i64 wa, .int .i64 l0, .int .i64 l1, .slice Ab nb cb, .int .i64 wrg, .int .i64 ab]))
  case first =>
    as_aux_lemma =>
      clear q_0 q_1 q_2 q_3
      refine wp_region_L0 (by kernel_rfl) (fun W' => (∀ j, W'.cell? ⟨w.heap.size, j, none⟩ = #[Value.slice Al nl cl, .int .i64 wa, .int .i64 l0, .int .i64 l1, .slice Ab nb cb, .int .i64 wrg][j]?) ∧ W'.cell? ⟨w.heap.size + 1, 0, none⟩ = some (.int .i64 wt) ∧ W'.cell? ⟨w.heap.size + 1 + 1, 0, none⟩ = some (.int .i64 mi)) 99 ?_
      obtain ⟨Y, hY⟩ : ∃ Y, W.drew = Y := ⟨_, rfl⟩
      rw [hY]
      have BY : Below W.heap.size W Y := by rw [← hY]; (repeat first | with_reducible assumption | with_reducible exact Below.refl _ _ | (with_reducible refine Below.alloc ?_ ?side _; case side => (first | omega | (with_reducible exact Below.size (by assumption)) | (simp; done) | (simp; omega))) | (with_reducible refine Below.setCell ?_ ?side _; case side => (first | omega | (with_reducible exact Below.size (by assumption)) | (simp; done) | (simp; omega))) | with_reducible refine Below.drew ?_ | with_reducible refine below_drewN ?_ _ | (with_reducible refine below_step (by assumption) ?side ?_; case side => (first | omega | (with_reducible exact Below.size (by assumption)) | (simp; done) | (simp; omega))))
      clear hY
      have hS := HSS.out Y BY
      refine wpAnyL_take (i := 0) (v := ?_) rfl (by kernel_rfl) (by kernel_rfl) (by kernel_rfl) (by kernel_rfl) (fun _ _ _ h => h) hS (Or.inl ⟨by rfl, ?_⟩) ?_
      rotate_left 1
      · intro w9 hw9
        obtain ⟨k0, k1, k2⟩ := hw9
        go_simp
        try with_reducible rfl
      try simp only [List.getElem_toArray, List.getElem_cons_zero, Act.put, List.setIfInBounds_toArray, List.set_cons_zero, List.set_cons_succ]
      refine wpAnyL_take (i := 1) (v := ?_) rfl (by kernel_rfl) (by kernel_rfl) (by kernel_rfl) (by kernel_rfl) (fun _ _ _ h => h) hS (Or.inl ⟨by rfl, ?_⟩) ?_
      rotate_left 1
      · intro w9 hw9
        obtain ⟨k0, k1, k2⟩ := hw9
        go_simp
        try with_reducible rfl
      try simp only [List.getElem_toArray, List.getElem_cons_zero, List.getElem_cons_succ, Act.put, List.setIfInBounds_toArray, List.set_cons_zero, List.set_cons_succ]
      refine wpAnyL_take (i := 2) (v := ?_) rfl (by kernel_rfl) (by kernel_rfl) (by kernel_rfl) (by kernel_rfl) (fun _ _ _ h => h) hS (Or.inl ⟨by rfl, ?_⟩) ?_
      rotate_left 1
      · intro w9 hw9
        obtain ⟨k0, k1, k2⟩ := hw9
        go_simp
        try with_reducible rfl
      try simp only [List.getElem_toArray, List.getElem_cons_zero, List.getElem_cons_succ, Act.put, List.setIfInBounds_toArray, List.set_cons_zero, List.set_cons_succ]
      clear hS
      refine wpAnyL_two (i := 3) (j := 8) (by kernel_rfl) rfl rfl (fun K hK => ?_) (fun K hK => ?_)
      · skip
        first | (go_simp; go_at_call 41) | (refine wpAnyL_one (i := 3) (by kernel_rfl) rfl (fun K hK => ?_); go_simp; go_at_call 41)
        refine (hak.out _).mono ?_
        rintro e w' ⟨rfl, rfl⟩
        refine hK.out _ _ (fun _ => HSS.out _ BY) (fun _ => ?_)
        clear hK K
        try simp only [List.getElem_toArray, List.getElem_cons_zero, List.getElem_cons_succ, Act.put, List.setIfInBounds_toArray, List.set_cons_zero, List.set_cons_succ]
        refine wpAnyL_two (i := 4) (j := 8) (by kernel_rfl) rfl rfl (fun K hK => ?_) (fun K hK => ?_)
        · skip
          first | (go_simp; go_at_call 36) | (refine wpAnyL_one (i := 4) (by kernel_rfl) rfl (fun K hK => ?_); go_simp; go_at_call 36)
          refine (hop1.out Y (hB.trans (Below.mono BY zs))).mono ?_
          rintro e w1 ⟨gm, rfl, hg, hM, hb1⟩
          have B1 := Below.trans BY (hb1.mono (Below.size BY))
          have HB1 := Lib.hid hb1
          have HM := Lib.hid hM
          clear hb1
          refine hK.out _ _ (fun _ => HSS.out _ B1) (fun _ => ?_)
          clear hK K
          try simp only [List.getElem_toArray, List.getElem_cons_zero, List.getElem_cons_succ, Act.put, List.setIfInBounds_toArray, List.set_cons_zero, List.set_cons_succ]
          have hS := HSS.out w1 B1
          refine wpAnyL_take (i := 5) (v := ?_) rfl (by kernel_rfl) (by kernel_rfl) (by kernel_rfl) (by kernel_rfl) (fun _ _ _ h => h) hS (Or.inl ⟨by rfl, ?_⟩) ?_
          rotate_left 1
          · intro w9 hw9
            obtain ⟨k0, k1, k2⟩ := hw9
            go_simp
            try with_reducible rfl
          try simp only [List.getElem_toArray, List.getElem_cons_zero, List.getElem_cons_succ, Act.put, List.setIfInBounds_toArray, List.set_cons_zero, List.set_cons_succ]
          refine wpAnyL_take (i := 6) (v := ?_) rfl (by kernel_rfl) (by kernel_rfl) (by kernel_rfl) (by kernel_rfl) (fun _ _ _ h => h) hS (Or.inl ⟨by rfl, ?_⟩) ?_
          rotate_left 1
          · intro w9 hw9
            obtain ⟨k0, k1, k2⟩ := hw9
            go_simp
            try with_reducible rfl
          try simp only [List.getElem_toArray, List.getElem_cons_zero, List.getElem_cons_succ, Act.put, List.setIfInBounds_toArray, List.set_cons_zero, List.set_cons_succ]
          refine wpAnyL_take (i := 7) (v := ?_) rfl (by kernel_rfl) (by kernel_rfl) (by kernel_rfl) (by kernel_rfl) (fun _ _ _ h => h) hS (Or.inl ⟨by rfl, ?_⟩) ?_
          rotate_left 1
          · intro w9 hw9
            obtain ⟨k0, k1, k2⟩ := hw9
            go_simp
            try with_reducible rfl
          try simp only [List.getElem_toArray, List.getElem_cons_zero, List.getElem_cons_succ, Act.put, List.setIfInBounds_toArray, List.set_cons_zero, List.set_cons_succ]
          clear hS
          try refine wpAnyL_one (i := 8) (by kernel_rfl) rfl (fun K hK => ?_)
          go_simp
          obtain ⟨Z, hZ⟩ : ∃ Z, World.alloc w1 (.cells #[.pointer none] 82) = Z := ⟨_, rfl⟩
          rw [hZ]
          have BZ0 : Below (w1).heap.size w1 Z := (al1 hZ).1
          have BZ : Below W.heap.size W Z := Below.trans B1 (BZ0.mono (Below.size B1))
          have HZ0 : Hid (Blk Z (w1).heap.size 82 #[.pointer none]) := by rw [← hZ]; exact Lib.hid (Blk.new _ _ _)
          clear hZ
          refine hK.out _ _ (fun _ => HSS.out _ BZ) (fun _ => ?_)
          clear hK K
          try simp only [List.getElem_toArray, List.getElem_cons_zero, List.getElem_cons_succ, Act.put, List.setIfInBounds_toArray, List.set_cons_zero, List.set_cons_succ]
          have zz := HZ0.out.lt
          have kz := (HZ0).out.cell
          have fz := (HZ0).out.frozen
          have lz := (HZ0).out.lt
          refine wpAnyL_one (i := 9) (by kernel_rfl) rfl (fun K hK => ?_)
          go_simp
          refine hK.out _ _ (fun _ => HSS.out _ (Below.setCell (p := ⟨w1.heap.size, 0, none⟩) BZ B1.size _)) (fun _ => ?_)
          clear hK K
          try simp only [List.getElem_toArray, List.getElem_cons_zero, List.getElem_cons_succ, Act.put, List.setIfInBounds_toArray, List.set_cons_zero, List.set_cons_succ]
          clear kz fz lz
          refine wpAnyL_one (i := 10) (by kernel_rfl) rfl (fun K hK => ?_)
          go_simp
          refine hK.out _ _ (fun _ => HSS.out _ (Below.setCell (p := ⟨w1.heap.size, 0, none⟩) BZ B1.size _)) (fun _ => ?_)
          clear hK K
          refine wpAnyL_done0 (by kernel_rfl) ?_ _
          go_wp2_with fail
          go_meet
          exact ⟨w1.heap.size, gm, rfl, rfl, B1.size, by simpa using zz, Nat.le_trans BY.size hg, Lib.hid (Below.setCell (p := ⟨w1.heap.size, 0, none⟩) BZ B1.size _), Lib.hid (World.cell?_setCell_same' _ _ _ (by rw [HZ0.out.cell 0]; rfl)), Lib.hid ((HM.out.blk.below BZ0 HM.out.blk.lt).far (by have := HM.out.blk.lt; show gm ≠ w1.heap.size; omega) _)⟩
        · skip
          try refine wpAnyL_one (i := 8) (by kernel_rfl) rfl (fun K hK => ?_)
          go_simp
          obtain ⟨Z, hZ⟩ : ∃ Z, World.alloc Y (.cells #[.pointer none] 82) = Z := ⟨_, rfl⟩
          rw [hZ]
          have BZ0 : Below (Y).heap.size Y Z := (al1 hZ).1
          have BZ : Below W.heap.size W Z := Below.trans BY (BZ0.mono (Below.size BY))
          have HZ0 : Hid (Blk Z (Y).heap.size 82 #[.pointer none]) := by rw [← hZ]; exact Lib.hid (Blk.new _ _ _)
          clear hZ
          refine hK.out _ _ (fun _ => HSS.out _ BZ) (fun _ => ?_)
          clear hK K
          try simp only [List.getElem_toArray, List.getElem_cons_zero, List.getElem_cons_succ, Act.put, List.setIfInBounds_toArray, List.set_cons_zero, List.set_cons_succ]
          first | (go_simp; go_at_call 36) | (refine wpAnyL_one (i := 4) (by kernel_rfl) rfl (fun K hK => ?_); go_simp; go_at_call 36)
          refine (hop1.out Z (hB.trans (Below.mono BZ zs))).mono ?_
          rintro e w1 ⟨gm, rfl, hg, hM, hb1⟩
          have B1 := Below.trans BZ (hb1.mono (Below.size BZ))
          have HB1 := Lib.hid hb1
          have HM := Lib.hid hM
          clear hb1
          refine hK.out _ _ (fun _ => HSS.out _ B1) (fun _ => ?_)
          clear hK K
          try simp only [List.getElem_toArray, List.getElem_cons_zero, List.getElem_cons_succ, Act.put, List.setIfInBounds_toArray, List.set_cons_zero, List.set_cons_succ]
          have hS := HSS.out w1 B1
          refine wpAnyL_take (i := 5) (v := ?_) rfl (by kernel_rfl) (by kernel_rfl) (by kernel_rfl) (by kernel_rfl) (fun _ _ _ h => h) hS (Or.inl ⟨by rfl, ?_⟩) ?_
          rotate_left 1
          · intro w9 hw9
            obtain ⟨k0, k1, k2⟩ := hw9
            go_simp
            try with_reducible rfl
          try simp only [List.getElem_toArray, List.getElem_cons_zero, List.getElem_cons_succ, Act.put, List.setIfInBounds_toArray, List.set_cons_zero, List.set_cons_succ]
          refine wpAnyL_take (i := 6) (v := ?_) rfl (by kernel_rfl) (by kernel_rfl) (by kernel_rfl) (by kernel_rfl) (fun _ _ _ h => h) hS (Or.inl ⟨by rfl, ?_⟩) ?_
          rotate_left 1
          · intro w9 hw9
            obtain ⟨k0, k1, k2⟩ := hw9
            go_simp
            try with_reducible rfl
          try simp only [List.getElem_toArray, List.getElem_cons_zero, List.getElem_cons_succ, Act.put, List.setIfInBounds_toArray, List.set_cons_zero, List.set_cons_succ]
          refine wpAnyL_take (i := 7) (v := ?_) rfl (by kernel_rfl) (by kernel_rfl) (by kernel_rfl) (by kernel_rfl) (fun _ _ _ h => h) hS (Or.inl ⟨by rfl, ?_⟩) ?_
          rotate_left 1
          · intro w9 hw9
            obtain ⟨k0, k1, k2⟩ := hw9
            go_simp
            try with_reducible rfl
          try simp only [List.getElem_toArray, List.getElem_cons_zero, List.getElem_cons_succ, Act.put, List.setIfInBounds_toArray, List.set_cons_zero, List.set_cons_succ]
          clear hS
          have zz := HZ0.out.lt
          have HZ1 := Lib.hid (HZ0.out.below HB1.out zz)
          have zz1 := HZ1.out.lt
          have kz := (HZ1).out.cell
          have fz := (HZ1).out.frozen
          have lz := (HZ1).out.lt
          refine wpAnyL_one (i := 9) (by kernel_rfl) rfl (fun K hK => ?_)
          go_simp
          refine hK.out _ _ (fun _ => HSS.out _ (Below.setCell (p := ⟨Y.heap.size, 0, none⟩) B1 BY.size _)) (fun _ => ?_)
          clear hK K
          try simp only [List.getElem_toArray, List.getElem_cons_zero, List.getElem_cons_succ, Act.put, List.setIfInBounds_toArray, List.set_cons_zero, List.set_cons_succ]
          clear kz fz lz
          refine wpAnyL_one (i := 10) (by kernel_rfl) rfl (fun K hK => ?_)
          go_simp
          refine hK.out _ _ (fun _ => HSS.out _ (Below.setCell (p := ⟨Y.heap.size, 0, none⟩) B1 BY.size _)) (fun _ => ?_)
          clear hK K
          refine wpAnyL_done0 (by kernel_rfl) ?_ _
          go_wp2_with fail
          go_meet
          exact ⟨Y.heap.size, gm, rfl, rfl, BY.size, by simpa using zz1, Nat.le_trans BZ.size hg, Lib.hid (Below.setCell (p := ⟨Y.heap.size, 0, none⟩) B1 BY.size _), Lib.hid (World.cell?_setCell_same' _ _ _ (by rw [HZ1.out.cell 0]; rfl)), Lib.hid (HM.out.blk.far (by show gm ≠ Y.heap.size; omega) _)⟩
      · skip
        try refine wpAnyL_one (i := 8) (by kernel_rfl) rfl (fun K hK => ?_)
        go_simp
        obtain ⟨Z, hZ⟩ : ∃ Z, World.alloc Y (.cells #[.pointer none] 82) = Z := ⟨_, rfl⟩
        rw [hZ]
        have BZ0 : Below (Y).heap.size Y Z := (al1 hZ).1
        have BZ : Below W.heap.size W Z := Below.trans BY (BZ0.mono (Below.size BY))
        have HZ0 : Hid (Blk Z (Y).heap.size 82 #[.pointer none]) := by rw [← hZ]; exact Lib.hid (Blk.new _ _ _)
        clear hZ
        refine hK.out _ _ (fun _ => HSS.out _ BZ) (fun _ => ?_)
        clear hK K
        try simp only [List.getElem_toArray, List.getElem_cons_zero, List.getElem_cons_succ, Act.put, List.setIfInBounds_toArray, List.set_cons_zero, List.set_cons_succ]
        first | (go_simp; go_at_call 41) | (refine wpAnyL_one (i := 3) (by kernel_rfl) rfl (fun K hK => ?_); go_simp; go_at_call 41)
        refine (hak.out _).mono ?_
        rintro e w' ⟨rfl, rfl⟩
        refine hK.out _ _ (fun _ => HSS.out _ BZ) (fun _ => ?_)
        clear hK K
        try simp only [List.getElem_toArray, List.getElem_cons_zero, List.getElem_cons_succ, Act.put, List.setIfInBounds_toArray, List.set_cons_zero, List.set_cons_succ]
        first | (go_simp; go_at_call 36) | (refine wpAnyL_one (i := 4) (by kernel_rfl) rfl (fun K hK => ?_); go_simp; go_at_call 36)
        refine (hop1.out Z (hB.trans (Below.mono BZ zs))).mono ?_
        rintro e w1 ⟨gm, rfl, hg, hM, hb1⟩
        have B1 := Below.trans BZ (hb1.mono (Below.size BZ))
        have HB1 := Lib.hid hb1
        have HM := Lib.hid hM
        clear hb1
        refine hK.out _ _ (fun _ => HSS.out _ B1) (fun _ => ?_)
        clear hK K
        try simp only [List.getElem_toArray, List.getElem_cons_zero, List.getElem_cons_succ, Act.put, List.setIfInBounds_toArray, List.set_cons_zero, List.set_cons_succ]
        have hS := HSS.out w1 B1
        refine wpAnyL_take (i := 5) (v := ?_) rfl (by kernel_rfl) (by kernel_rfl) (by kernel_rfl) (by kernel_rfl) (fun _ _ _ h => h) hS (Or.inl ⟨by rfl, ?_⟩) ?_
        rotate_left 1
        · intro w9 hw9
          obtain ⟨k0, k1, k2⟩ := hw9
          go_simp
          try with_reducible rfl
        try simp only [List.getElem_toArray, List.getElem_cons_zero, List.getElem_cons_succ, Act.put, List.setIfInBounds_toArray, List.set_cons_zero, List.set_cons_succ]
        refine wpAnyL_take (i := 6) (v := ?_) rfl (by kernel_rfl) (by kernel_rfl) (by kernel_rfl) (by kernel_rfl) (fun _ _ _ h => h) hS (Or.inl ⟨by rfl, ?_⟩) ?_
        rotate_left 1
        · intro w9 hw9
          obtain ⟨k0, k1, k2⟩ := hw9
          go_simp
          try with_reducible rfl
        try simp only [List.getElem_toArray, List.getElem_cons_zero, List.getElem_cons_succ, Act.put, List.setIfInBounds_toArray, List.set_cons_zero, List.set_cons_succ]
        refine wpAnyL_take (i := 7) (v := ?_) rfl (by kernel_rfl) (by kernel_rfl) (by kernel_rfl) (by kernel_rfl) (fun _ _ _ h => h) hS (Or.inl ⟨by rfl, ?_⟩) ?_
        rotate_left 1
        · intro w9 hw9
          obtain ⟨k0, k1, k2⟩ := hw9
          go_simp
          try with_reducible rfl
        try simp only [List.getElem_toArray, List.getElem_cons_zero, List.getElem_cons_succ, Act.put, List.setIfInBounds_toArray, List.set_cons_zero, List.set_cons_succ]
        clear hS
        have zz := HZ0.out.lt
        have HZ1 := Lib.hid (HZ0.out.below HB1.out zz)
        have zz1 := HZ1.out.lt
        have kz := (HZ1).out.cell
        have fz := (HZ1).out.frozen
        have lz := (HZ1).out.lt
        refine wpAnyL_one (i := 9) (by kernel_rfl) rfl (fun K hK => ?_)
        go_simp
        refine hK.out _ _ (fun _ => HSS.out _ (Below.setCell (p := ⟨Y.heap.size, 0, none⟩) B1 BY.size _)) (fun _ => ?_)
        clear hK K
        try simp only [List.getElem_toArray, List.getElem_cons_zero, List.getElem_cons_succ, Act.put, List.setIfInBounds_toArray, List.set_cons_zero, List.set_cons_succ]
        clear kz fz lz
        refine wpAnyL_one (i := 10) (by kernel_rfl) rfl (fun K hK => ?_)
        go_simp
        refine hK.out _ _ (fun _ => HSS.out _ (Below.setCell (p := ⟨Y.heap.size, 0, none⟩) B1 BY.size _)) (fun _ => ?_)
        clear hK K
        refine wpAnyL_done0 (by kernel_rfl) ?_ _
        go_wp2_with fail
        go_meet
        exact ⟨Y.heap.size, gm, rfl, rfl, BY.size, by simpa using zz1, Nat.le_trans BZ.size hg, Lib.hid (Below.setCell (p := ⟨Y.heap.size, 0, none⟩) B1 BY.size _), Lib.hid (World.cell?_setCell_same' _ _ _ (by rw [HZ1.out.cell 0]; rfl)), Lib.hid (HM.out.blk.far (by show gm ≠ Y.heap.size; omega) _)⟩
  case rest =>
  obtain ⟨g8, gm, rfl, rfl, hg8, l8, hgm, HBV, HC8, HMB⟩ := hcut
  obtain ⟨V, hV⟩ : ∃ Z, wc = Z := ⟨_, rfl⟩
  rw [hV] at l8 HBV HC8 HMB ⊢
  clear hV
  have BV := HBV.out
  have c8 := HC8.out
  have mg := HMB.out.lt
  have hw3 := hB.trans (BV.mono zs)
  obtain ⟨hcV, hfV⟩ := bcell BV
  have k1 := (hcV _ 0 l_1).trans (q_1 0)
  have k2 := (hcV _ 0 l_2).trans (q_2 0)
  have k30 := (hcV _ 0 l_3).trans (q_3 0)
  have k31 := (hcV _ 1 l_3).trans (q_3 1)
  have j30 := (hfV _ 0 l_3).trans (f_3 0)
  have j31 := (hfV _ 1 l_3).trans (f_3 1)
  have zV := BV.size
  clear hcV hfV q_0 q_1 q_2 q_3 f_0 f_1 f_2 f_3
  go_upto_region 5 with (fail)
  go_name_world U hU
  have BU : Below V.heap.size V U := (al2 hU).1
  have zU : U.heap.size = V.heap.size + 2 := (al2 hU).2
  have BO : Hid (Blk U V.heap.size 24 #[.int .i64 0, .int .i64 0]) := by rw [← hU]; exact (Blk.new V _ _).alloc _
  have BF : Hid (Blk U (V.heap.size + 1) 4 #[.bool true]) := by
    rw [← hU]
    have := Blk.new (V.alloc (.cells #[.int .i64 0, .int .i64 0] 24)) 4 #[.bool true]
    rw [World.size_alloc] at this
    exact this
  clear hU
  obtain ⟨hcU, -⟩ := bcell BU
  have c8' := (hcU _ 0 l8).trans c8
  clear hcU c8
  go_wp2_with fail
  refine (Go.wpIn_wide (n := 6)).1 ?_
  have en := enters_of Try.func37 (by kernel_rfl) rfl
  have HU := Lib.hid (hw3.trans (BU.mono hw3.size))
  refine wpIn_rangeO (gf := 37) (fst := #[.pointer (some ⟨gm, 0, none⟩)]) (lb := #[]) rfl en (HIT.out gm) (fun K O x args W h => by rw [h]; rfl)
    (fun K O k W5 => (∀ b, O b → K b) ∧ Off (fun b => b = V.heap.size ∨ b = V.heap.size + 1) U.heap.size U W5 ∧ Blk W5 V.heap.size 24 #[.int .i64 (hu3 wa ab wt mi ys k).lo, .int .i64 (hu3 wa ab wt mi ys k).hi] ∧ Blk W5 (V.heap.size + 1) 4 #[.bool (k == 0)])
    (fun c W => False) ?hI ?hIt ?hIx ?hmem ?h0 ?hround ?hdone ?hstop
  case hI =>
    rintro K O K' O' k W5 W' hK ⟨hO, a1, a2, a3⟩ hst
    have hn : ∀ b, O b → U.heap.size ≤ b := fun b hb => by have := hK b (hO b hb); omega
    exact ⟨hst.inO, a1.stp hst hn (Nat.le_refl _), hst.blk a2 (fun e => by have := hn _ e; omega), hst.blk a3 (fun e => by have := hn _ e; omega)⟩
  case hIt =>
    rintro K O k W5 W' hK hs ⟨hO, a1, a2, a3⟩ ht
    exact ⟨hO, a1.turn ht (Nat.le_refl _) (Nat.le_refl _), ht.blk a2 (by omega), ht.blk a3 (by omega)⟩
  case hIx => exact fun c W W' h => h.elim
  case hmem =>
    rintro K O k W5 ⟨-, a1, -⟩
    have hw := a1.below (m := w.heap.size) (fun b e => by omega) (by omega) HU.out
    exact ⟨a1.blk (HMB.out.below BU mg) (by omega) (by omega), HLI.out.later hw, HBI.out.later hw⟩
  case h0 =>
    rintro W5 hb h
    exact ⟨fun b h => h, .of_below hb, BO.out.below hb (by omega), BF.out.below hb (by omega)⟩
  case hround =>
    rintro K O k x args W5 hK hO hs hx ⟨-, a1, a2, a3⟩ rfl
    have hm0 : x ∈ ys := List.mem_of_getElem? hx
    rw [← HYS.out, hab] at hm0
    obtain ⟨hlk, hbw⟩ := trS_mem HOK.out hm0
    have HSU := Lib.hid (hu3_succ (wa := wa) (ab := ab) (wt := wt) (mi := mi) hx)
    have HA1 := Lib.hid a1
    have HA2 := Lib.hid a2
    have HA3 := Lib.hid a3
    obtain ⟨⟨A1, A2⟩, A3⟩ : ((0 ≤ wa ∧ wa ≤ 9999) ∧ 1 ≤ ab ∧ ab ≤ 1000000000) ∧ True := ⟨⟨HOK.out.wa, HOK.out.ab⟩, trivial⟩
    have hwt : (0 ≤ wt ∧ wt ≤ 9999) ∧ 0 ≤ mi ∧ mi ≤ 99 := by
      have := HAS.out
      simp only [ask3, Bool.and_eq_true, wn_true] at this
      exact this.1
    clear hx hm0 a1 a2 a3
    obtain ⟨s0, s1, s2, lk, bw⟩ := x
    simp only at hlk hbw
    simp only [enc3]
    gi_wp2
    have hbb : Below W5.heap.size W5 (W5.alloc (.cells #[.int .i64 s0, .int .i64 s1, .int .i64 s2, .int .i64 lk, .int .i64 bw] 92)) := by (repeat first | with_reducible assumption | with_reducible exact Below.refl _ _ | (with_reducible refine Below.alloc ?_ ?side _; case side => (first | omega | (with_reducible exact Below.size (by assumption)) | (simp; done) | (simp; omega))) | (with_reducible refine Below.setCell ?_ ?side _; case side => (first | omega | (with_reducible exact Below.size (by assumption)) | (simp; done) | (simp; omega))) | with_reducible refine Below.drew ?_ | with_reducible refine below_drewN ?_ _ | (with_reducible refine below_step (by assumption) ?side ?_; case side => (first | omega | (with_reducible exact Below.size (by assumption)) | (simp; done) | (simp; omega))))
    refine ⟨.of_below hbb (by omega), .of_below hbb, fun W2 ht => ?_⟩
    have q12 : Hid (Blk W2 W5.heap.size 92 #[.int .i64 s0, .int .i64 s1, .int .i64 s2, .int .i64 lk, .int .i64 bw]) := Lib.hid (ht.blk (Blk.new W5 _ _) (by omega))
    have HO2 := Lib.hid ((HA1.out.then_below hbb (by omega)).turn ht (Nat.le_refl _) (Nat.le_refl _))
    have HB2 := Lib.hid (ht.blk (HA2.out.below hbb HA2.out.lt) (by omega))
    have HF2 := Lib.hid (ht.blk (HA3.out.below hbb HA3.out.lt) (by omega))
    have d8 := (HO2.out.cell (Nat.lt_of_lt_of_le l8 BU.size) (by rintro (h | h) <;> (dsimp only at h; omega))).trans c8'
    have e1 := (HO2.out.cell (p := ⟨w.heap.size + 1, 0, none⟩) (by show w.heap.size + 1 < _; omega) (by rintro (h | h) <;> (dsimp only at h; omega))).trans ((BU.cell (p := ⟨w.heap.size + 1, 0, none⟩) (by show w.heap.size + 1 < _; omega)).trans k1)
    have e2 := (HO2.out.cell (p := ⟨w.heap.size + 1 + 1, 0, none⟩) (by show w.heap.size + 1 + 1 < _; omega) (by rintro (h | h) <;> (dsimp only at h; omega))).trans ((BU.cell (p := ⟨w.heap.size + 1 + 1, 0, none⟩) (by show w.heap.size + 1 + 1 < _; omega)).trans k2)
    have MB2 := HO2.out.blk (HMB.out.below BU mg) (by omega) (by rintro (h | h) <;> omega)
    have cg := MB2.cell
    have lg := MB2.lt
    have c12 := q12.out.cell
    have l12 := q12.out.lt
    have zU2 := HO2.out.size
    have f1 : w.heap.size + 1 < W2.heap.size := by omega
    have f8 := Nat.lt_of_lt_of_le (Nat.lt_of_lt_of_le l8 BU.size) zU2
    have f2 : w.heap.size + 1 + 1 < W2.heap.size := by omega
    have hpu := Lib.hid (fun Z (hZ : Below W2.heap.size W2 Z) => pull_c gm Al nl cl wa l0 l1 Ab nb cb wrg ab ⟨s0, s1, s2, lk, bw⟩ wt mi Z (MB2.below hZ lg) A1 hlk hwt.1 hwt.2)
    obtain ⟨-, p1, p2⟩ := pl3_bd A1 hlk hwt.1 hwt.2
    have HLD := Lib.hid (show ld3 wa ab wt mi ⟨s0, s1, s2, lk, bw⟩ = ⟨pl3 wa lk wt mi * ab / bw, (pl3 wa lk wt mi * ab + bw - 1) / bw⟩ from rfl)
    simp only at hpu
    obtain ⟨p, hp⟩ : ∃ p, pl3 wa lk wt mi = p := ⟨_, rfl⟩
    rw [hp] at p1 p2 hpu HLD
    have t1 : 0 ≤ p * ab := Int.mul_nonneg p1 (by omega)
    have t2 : p * ab ≤ 19998 * 1000000000 := Int.mul_le_mul p2 A2.2 (by omega) (by omega)
    obtain ⟨n, hn'⟩ : ∃ n, p * ab = n := ⟨_, rfl⟩
    rw [hn'] at t1 t2 HLD
    have v1 : IntKind.i64.wrap (p * ab) = n := by rw [hn']; exact IntWalk.i64_in _ (by omega)
    have v2 : IntKind.i64.wrap (n + bw) = n + bw := IntWalk.i64_in _ (by omega)
    have v3 : IntKind.i64.wrap (n + bw - 1) = n + bw - 1 := IntWalk.i64_in _ (by omega)
    obtain ⟨x0, hx0⟩ : ∃ x, n / bw = x := ⟨_, rfl⟩
    obtain ⟨x1, hx1⟩ : ∃ x, (n + bw - 1) / bw = x := ⟨_, rfl⟩
    rw [hx0, hx1] at HLD
    have g0 : 0 ≤ x0 ∧ x0 ≤ n := by rw [← hx0]; exact ⟨Int.ediv_nonneg t1 (by omega), Int.ediv_le_self _ t1⟩
    have g1 : 0 ≤ x1 ∧ x1 ≤ n + bw - 1 := by rw [← hx1]; exact ⟨Int.ediv_nonneg (by omega) (by omega), Int.ediv_le_self _ (by omega)⟩
    have v4 : IntKind.i64.wrap (n.tdiv bw) = x0 := by rw [Int.tdiv_eq_ediv_of_nonneg t1, hx0]; exact IntWalk.i64_in _ (by omega)
    have v5 : IntKind.i64.wrap ((n + bw - 1).tdiv bw) = x1 := by rw [Int.tdiv_eq_ediv_of_nonneg (by omega), hx1]; exact IntWalk.i64_in _ (by omega)
    have hn0 : ¬ bw = 0 := by omega
    have HXX := Lib.hid (And.intro g0 g1)
    clear hn' hx0 hx1 hp g0 g1 MB2
    gi_wp2
    have hcq := fun p : Regrown => (bcell (below_regrown W2 p.d p.os)).1
    refine wpIn_region_quiet_round (by kernel_rfl) (by kernel_rfl) (by kernel_rfl) ?_
    repeat (go_big_quiet_step ((go_at_call 44; exact Calls.regrown_of (hpu.out _ (below_regrown _ _ _)))))
    refine wpQuiet_nil ?_
    intro wq hq
    obtain ⟨pq, hq⟩ := hq
    have hbq : Below W2.heap.size W2 wq := by rw [hq]; exact below_regrown _ _ _
    clear hq hcq pq
    obtain ⟨hcq, hfq⟩ := bcell hbq
    have zq := hbq.size
    have HBQ := Lib.hid (HB2.out.below hbq HB2.out.lt)
    have HFQ := Lib.hid (HF2.out.below hbq HF2.out.lt)
    have HOQ := Lib.hid (HO2.out.then_below hbq (by omega))
    have c12q := fun i => (hcq _ i l12).trans (c12 i)
    have l12q := Nat.lt_of_lt_of_le l12 zq
    have HKL := Lib.hid (KeepL.of_below (B := U.heap.size) hbq (by omega))
    have HKP := Lib.hid (KpO.of_below (K := K) hbq)
    have zW := ht.size
    clear hcq hfq hbq c12 cg e1 e2 d8 hpu HB2 HF2 HO2
    gi_wp2
    have hS : ∀ j, wq.drew.cell? ⟨W5.heap.size, j, none⟩ = #[Value.int .i64 s0, .int .i64 s1, .int .i64 s2, .int .i64 lk, .int .i64 bw][j]? := fun j => c12q j
    refine wpIn_region_L (by kernel_rfl) (by rfl) (by rintro ⟨a, w, h⟩; exact h) (fun W' => ∀ j, W'.cell? ⟨W5.heap.size, j, none⟩ = #[Value.int .i64 s0, .int .i64 s1, .int .i64 s2, .int .i64 lk, .int .i64 bw][j]?) 14 ?_
    refine wpAnyL_take (i := 0) (v := ?_) rfl (by kernel_rfl) (by kernel_rfl) (by kernel_rfl) (by kernel_rfl) (fun _ _ _ h => h) hS (Or.inl ⟨by rfl, ?_⟩) ?_
    rotate_left 1
    · intro w9 hw9
      go_simp
      try with_reducible rfl
    simp only [List.getElem_toArray, List.getElem_cons_zero, Act.put, List.setIfInBounds_toArray, List.set_cons_zero, List.set_cons_succ]
    refine wpAnyL_take (i := 1) (v := ?_) rfl (by kernel_rfl) (by kernel_rfl) (by kernel_rfl) (by kernel_rfl) (fun _ _ _ h => h) hS (Or.inl ⟨by rfl, ?_⟩) ?_
    rotate_left 1
    · intro w9 hw9
      go_simp
      try with_reducible rfl
    simp only [List.getElem_toArray, List.getElem_cons_zero, List.getElem_cons_succ, Act.put, List.setIfInBounds_toArray, List.set_cons_zero, List.set_cons_succ]
    refine wpAnyL_take (i := 2) (v := ?_) rfl (by kernel_rfl) (by kernel_rfl) (by kernel_rfl) (by kernel_rfl) (fun _ _ _ h => h) hS (Or.inl ⟨by rfl, ?_⟩) ?_
    rotate_left 1
    · intro w9 hw9
      go_simp
      try with_reducible rfl
    simp only [List.getElem_toArray, List.getElem_cons_zero, List.getElem_cons_succ, Act.put, List.setIfInBounds_toArray, List.set_cons_zero, List.set_cons_succ]
    refine wpAnyL_take (i := 3) (v := ?_) rfl (by kernel_rfl) (by kernel_rfl) (by kernel_rfl) (by kernel_rfl) (fun _ _ _ h => h) hS (Or.inl ⟨by rfl, ?_⟩) ?_
    rotate_left 1
    · intro w9 hw9
      go_simp
      try with_reducible rfl
    simp only [List.getElem_toArray, List.getElem_cons_zero, List.getElem_cons_succ, Act.put, List.setIfInBounds_toArray, List.set_cons_zero, List.set_cons_succ]
    refine wpAnyL_take (i := 4) (v := ?_) rfl (by kernel_rfl) (by kernel_rfl) (by kernel_rfl) (by kernel_rfl) (fun _ _ _ h => h) hS (Or.inl ⟨by rfl, ?_⟩) ?_
    rotate_left 1
    · intro w9 hw9
      go_simp
      try with_reducible rfl
    simp only [List.getElem_toArray, List.getElem_cons_zero, List.getElem_cons_succ, Act.put, List.setIfInBounds_toArray, List.set_cons_zero, List.set_cons_succ]
    refine wpAnyL_take (i := 5) (v := ?_) rfl (by kernel_rfl) (by kernel_rfl) (by kernel_rfl) (by kernel_rfl) (fun _ _ _ h => h) hS (Or.inl ⟨by rfl, ?_⟩) ?_
    rotate_left 1
    · intro w9 hw9
      go_simp
      try with_reducible rfl
    simp only [List.getElem_toArray, List.getElem_cons_zero, List.getElem_cons_succ, Act.put, List.setIfInBounds_toArray, List.set_cons_zero, List.set_cons_succ]
    refine wpAnyL_take (i := 6) (v := ?_) rfl (by kernel_rfl) (by kernel_rfl) (by kernel_rfl) (by kernel_rfl) (fun _ _ _ h => h) hS (Or.inl ⟨by rfl, ?_⟩) ?_
    rotate_left 1
    · intro w9 hw9
      go_simp
      try with_reducible rfl
    simp only [List.getElem_toArray, List.getElem_cons_zero, List.getElem_cons_succ, Act.put, List.setIfInBounds_toArray, List.set_cons_zero, List.set_cons_succ]
    refine wpAnyL_take (i := 7) (v := ?_) rfl (by kernel_rfl) (by kernel_rfl) (by kernel_rfl) (by kernel_rfl) (fun _ _ _ h => h) hS (Or.inl ⟨by rfl, ?_⟩) ?_
    rotate_left 1
    · intro w9 hw9
      go_simp
      try with_reducible rfl
    simp only [List.getElem_toArray, List.getElem_cons_zero, List.getElem_cons_succ, Act.put, List.setIfInBounds_toArray, List.set_cons_zero, List.set_cons_succ]
    refine wpAnyL_take (i := 8) (v := ?_) rfl (by kernel_rfl) (by kernel_rfl) (by kernel_rfl) (by kernel_rfl) (fun _ _ _ h => h) hS (Or.inl ⟨by rfl, ?_⟩) ?_
    rotate_left 1
    · intro w9 hw9
      go_simp
      try with_reducible rfl
    simp only [List.getElem_toArray, List.getElem_cons_zero, List.getElem_cons_succ, Act.put, List.setIfInBounds_toArray, List.set_cons_zero, List.set_cons_succ]
    refine wpAnyL_take (i := 9) (v := ?_) rfl (by kernel_rfl) (by kernel_rfl) (by kernel_rfl) (by kernel_rfl) (fun _ _ _ h => h) hS (Or.inl ⟨by rfl, ?_⟩) ?_
    rotate_left 1
    · intro w9 hw9
      go_simp
      try with_reducible rfl
    simp only [List.getElem_toArray, List.getElem_cons_zero, List.getElem_cons_succ, Act.put, List.setIfInBounds_toArray, List.set_cons_zero, List.set_cons_succ]
    refine wpAnyL_take (i := 10) (v := ?_) rfl (by kernel_rfl) (by kernel_rfl) (by kernel_rfl) (by kernel_rfl) (fun _ _ _ h => h) hS (Or.inl ⟨by rfl, ?_⟩) ?_
    rotate_left 1
    · intro w9 hw9
      go_simp
      try with_reducible rfl
    simp only [List.getElem_toArray, List.getElem_cons_zero, List.getElem_cons_succ, Act.put, List.setIfInBounds_toArray, List.set_cons_zero, List.set_cons_succ]
    refine wpAnyL_take (i := 11) (v := ?_) rfl (by kernel_rfl) (by kernel_rfl) (by kernel_rfl) (by kernel_rfl) (fun _ _ _ h => h) hS (Or.inl ⟨by rfl, ?_⟩) ?_
    rotate_left 1
    · intro w9 hw9
      go_simp
      try with_reducible rfl
    simp only [List.getElem_toArray, List.getElem_cons_zero, List.getElem_cons_succ, Act.put, List.setIfInBounds_toArray, List.set_cons_zero, List.set_cons_succ]
    refine wpAnyL_take (i := 12) (v := ?_) rfl (by kernel_rfl) (by kernel_rfl) (by kernel_rfl) (by kernel_rfl) (fun _ _ _ h => h) hS (Or.inl ⟨by rfl, ?_⟩) ?_
    rotate_left 1
    · intro w9 hw9
      go_simp
      try with_reducible rfl
    simp only [List.getElem_toArray, List.getElem_cons_zero, List.getElem_cons_succ, Act.put, List.setIfInBounds_toArray, List.set_cons_zero, List.set_cons_succ]
    refine wpAnyL_one (i := 13) (by kernel_rfl) rfl (fun K9 hK9 => ?_)
    go_simp
    refine hK9.out _ _ (fun _ j => (World.cell?_alloc_lt _ _ _ (by show W5.heap.size < wq.heap.size; omega)).trans (hS j)) (fun hS' => ?_)
    clear hK9 K9
    refine wpAnyL_one (i := 14) (by kernel_rfl) rfl (fun K9 hK9 => ?_)
    go_simp
    refine hK9.out _ _ (fun h => absurd rfl h) (fun _ => ?_)
    refine wpAnyL_done (by kernel_rfl) ?_ _
    clear hK9 K9 hS' hS
    obtain ⟨Y, hY⟩ : ∃ Y, (wq.alloc (.cells #[.int .i64 x0, .int .i64 x1] 24)).drew = Y := ⟨_, rfl⟩
    rw [hY]
    have BY : Below wq.heap.size wq Y := by rw [← hY]; (repeat first | with_reducible assumption | with_reducible exact Below.refl _ _ | (with_reducible refine Below.alloc ?_ ?side _; case side => (first | omega | (with_reducible exact Below.size (by assumption)) | (simp; done) | (simp; omega))) | (with_reducible refine Below.setCell ?_ ?side _; case side => (first | omega | (with_reducible exact Below.size (by assumption)) | (simp; done) | (simp; omega))) | with_reducible refine Below.drew ?_ | with_reducible refine below_drewN ?_ _ | (with_reducible refine below_step (by assumption) ?side ?_; case side => (first | omega | (with_reducible exact Below.size (by assumption)) | (simp; done) | (simp; omega))))
    have zY : wq.heap.size < Y.heap.size := by rw [← hY]; simp [World.drew]
    have HNY : Hid (Blk Y wq.heap.size 24 #[.int .i64 x0, .int .i64 x1]) := by rw [← hY]; exact Lib.hid (Blk.new wq _ _)
    have HOY := Lib.hid (HBQ.out.below BY HBQ.out.lt)
    have HFY := Lib.hid (HFQ.out.below BY HFQ.out.lt)
    have HXY := Lib.hid (HOQ.out.then_below BY (by omega))
    have HKY := Lib.hid (HKL.out.trans (KeepL.of_below BY (by omega)))
    have HPY := Lib.hid (HKP.out.trans (KpO.of_below (K := K) BY))
    have n0 := HNY.out.cell
    have o0 := HOY.out.cell
    have o1 := HOY.out.frozen
    have r0 := HFY.out.cell
    have r1 := HFY.out.frozen
    clear hY HBQ HFQ HOQ HKL HKP
    obtain ⟨h0, hh0⟩ : ∃ h, (hu3 wa ab wt mi ys k).lo = h := ⟨_, rfl⟩
    obtain ⟨h1, hh1⟩ : ∃ h, (hu3 wa ab wt mi ys k).hi = h := ⟨_, rfl⟩
    rw [hh0, hh1] at o0 HOY
    have HH := Lib.hid (And.intro hh0 hh1)
    clear hh0 hh1
    cases hk0 : (k == 0)
    · rw [zU] at HKY HXY
      rw [hk0] at r0 HFY
      have HK0 := Lib.hid hk0
      clear hk0
      have E1 : (hu3 wa ab wt mi ys (k + 1)).lo = min h0 x0 ∧ (hu3 wa ab wt mi ys (k + 1)).hi = max h1 x1 := by
        rw [HSU.out, if_neg (by have := HK0.out; simpa using this), HLD.out]
        unfold hl3
        rw [HH.out.1, HH.out.2]
        exact ⟨rfl, rfl⟩
      have E2 := Lib.hid E1
      clear E1
      gi_wp2
      all_goals
        refine ⟨(by repeat (first | exact HKY.out | refine KeepL.trans ?_ (KeepL.set (by constructor <;> (dsimp only; omega)) _))), (by repeat (first | exact HPY.out | refine KpO.trans ?_ (KpO.set (fun h => by have := hK _ h; dsimp only at this; omega) _))), hO, (by repeat (first | exact HXY.out | (refine Off.set ?_ (.inl (.inl rfl)) _) | (refine Off.set ?_ (.inl (.inr rfl)) _))), ?_, ?_⟩
        · rw [E2.out.1, E2.out.2]
          first | rw [show min h0 x0 = x0 by omega] | rw [show min h0 x0 = h0 by omega]
          first | rw [show max h1 x1 = x1 by omega] | rw [show max h1 x1 = h1 by omega]
          first
          | simpa using (HOY.out.set_ 0 (.int .i64 x0)).set_ 1 (.int .i64 x1)
          | simpa using (HOY.out.set_ 0 (.int .i64 x0)).set_ 1 (.int .i64 h1)
          | simpa using (HOY.out.set_ 0 (.int .i64 h0)).set_ 1 (.int .i64 x1)
          | simpa using (HOY.out.set_ 0 (.int .i64 h0)).set_ 1 (.int .i64 h1)
        · exact (HFY.out.far (p := ⟨V.heap.size, 0, none⟩) (by show V.heap.size + 1 ≠ V.heap.size; omega) _).far (p := ⟨V.heap.size, 1, none⟩) (by show V.heap.size + 1 ≠ V.heap.size; omega) _
    · rw [hk0] at r0 HFY
      have HK0 := Lib.hid hk0
      clear hk0
      gi_wp2
      have E1 : (hu3 wa ab wt mi ys (k + 1)).lo = x0 ∧ (hu3 wa ab wt mi ys (k + 1)).hi = x1 := by
        rw [HSU.out, if_pos (by have := HK0.out; simpa using this), HLD.out, hl3_idem]
        exact ⟨rfl, rfl⟩
      have E2 := Lib.hid E1
      clear E1
      refine ⟨(by repeat (first | exact HKY.out | refine KeepL.trans ?_ (KeepL.set (by constructor <;> (dsimp only; omega)) _))), (by repeat (first | exact HPY.out | refine KpO.trans ?_ (KpO.set (fun h => by have := hK _ h; dsimp only at this; omega) _))), hO, (by repeat (first | exact HXY.out | (refine Off.set ?_ (.inl (.inl rfl)) _) | (refine Off.set ?_ (.inl (.inr rfl)) _))), ?_, ?_⟩
      · rw [E2.out.1, E2.out.2]
        simpa using ((((HOY.out.set_ 0 (.int .i64 x0)).set_ 1 (.int .i64 x1)).far (p := ⟨V.heap.size + 1, 0, none⟩) (by show V.heap.size ≠ V.heap.size + 1; omega) (.bool false)).set_ 0 (.int .i64 x0)).set_ 1 (.int .i64 x1)
      · have h6 := ((HFY.out.far (p := ⟨V.heap.size, 0, none⟩) (by show V.heap.size + 1 ≠ V.heap.size; omega) (.int .i64 x0)).far (p := ⟨V.heap.size, 1, none⟩) (by show V.heap.size + 1 ≠ V.heap.size; omega) (.int .i64 x1)).set_ 0 (.bool false)
        simpa using (h6.far (p := ⟨V.heap.size, 0, none⟩) (by show V.heap.size + 1 ≠ V.heap.size; omega) (.int .i64 x0)).far (p := ⟨V.heap.size, 1, none⟩) (by show V.heap.size + 1 ≠ V.heap.size; omega) (.int .i64 x1)
  case hdone =>
    rintro K O W5 hK hs ⟨-, a1, a2, a3⟩ hD
    have hw := Lib.hid (a1.below (m := w.heap.size) (fun b e => by omega) (by omega) HU.out)
    have zU5 := a1.size
    have g0 := a2.cell
    have t30 := (a1.cell (p := ⟨w.heap.size + 1 + 1 + 1, 0, none⟩) (by show w.heap.size + 1 + 1 + 1 < _; omega) (by rintro (h | h) <;> (dsimp only at h; omega))).trans ((BU.cell (p := ⟨w.heap.size + 1 + 1 + 1, 0, none⟩) (by show w.heap.size + 1 + 1 + 1 < _; omega)).trans k30)
    have t31 := (a1.cell (p := ⟨w.heap.size + 1 + 1 + 1, 1, none⟩) (by show w.heap.size + 1 + 1 + 1 < _; omega) (by rintro (h | h) <;> (dsimp only at h; omega))).trans ((BU.cell (p := ⟨w.heap.size + 1 + 1 + 1, 1, none⟩) (by show w.heap.size + 1 + 1 + 1 < _; omega)).trans k31)
    have s30 := (a1.frozen (p := ⟨w.heap.size + 1 + 1 + 1, 0, none⟩) (by show w.heap.size + 1 + 1 + 1 < _; omega) (by rintro (h | h) <;> (dsimp only at h; omega))).trans ((BU.frozen (p := ⟨w.heap.size + 1 + 1 + 1, 0, none⟩) (by show w.heap.size + 1 + 1 + 1 < _; omega)).trans j30)
    have s31 := (a1.frozen (p := ⟨w.heap.size + 1 + 1 + 1, 1, none⟩) (by show w.heap.size + 1 + 1 + 1 < _; omega) (by rintro (h | h) <;> (dsimp only at h; omega))).trans ((BU.frozen (p := ⟨w.heap.size + 1 + 1 + 1, 1, none⟩) (by show w.heap.size + 1 + 1 + 1 < _; omega)).trans j31)
    have lt5 : w.heap.size + 1 + 1 + 1 < W5.heap.size := by omega
    clear a1 a2 a3
    obtain ⟨y0, hy0⟩ : ∃ y, (hu3 wa ab wt mi ys ys.length).lo = y := ⟨_, rfl⟩
    obtain ⟨y1, hy1⟩ : ∃ y, (hu3 wa ab wt mi ys ys.length).hi = y := ⟨_, rfl⟩
    rw [hy0, hy1] at g0
    have HY := Lib.hid (And.intro hy0 hy1)
    have ZU := Lib.hid zU
    have ltU : w.heap.size + 1 + 1 + 1 < U.heap.size := by omega
    clear hy0 hy1 zU
    gi_wp2
    go_wp2_with fail
    have zU := ZU.out
    have hD2 : ((W5.setCell ⟨w.heap.size + 1 + 1 + 1, 0, none⟩ (.int .i64 y0)).setCell ⟨w.heap.size + 1 + 1 + 1, 1, none⟩ (.int .i64 y1)).heap[U.heap.size]? = some (.deferred (some [])) :=
      (Below.heap_setCell (W5.setCell ⟨w.heap.size + 1 + 1 + 1, 0, none⟩ (.int .i64 y0)) ⟨w.heap.size + 1 + 1 + 1, 1, none⟩ _ _ (by show U.heap.size ≠ w.heap.size + 1 + 1 + 1; omega)).trans ((Below.heap_setCell W5 ⟨w.heap.size + 1 + 1 + 1, 0, none⟩ _ _ (by show U.heap.size ≠ w.heap.size + 1 + 1 + 1; omega)).trans hD)
    obtain ⟨d0, d1⟩ := two_cells (u := .int .i64 y0) (v := .int .i64 y1) (by simp) t30 t31
    have hw2 : Below w.heap.size w ((W5.setCell ⟨w.heap.size + 1 + 1 + 1, 0, none⟩ (.int .i64 y0)).setCell ⟨w.heap.size + 1 + 1 + 1, 1, none⟩ (.int .i64 y1)) := by have := hw.out; (repeat first | with_reducible assumption | with_reducible exact Below.refl _ _ | (with_reducible refine Below.alloc ?_ ?side _; case side => (first | omega | (with_reducible exact Below.size (by assumption)) | (simp; done) | (simp; omega))) | (with_reducible refine Below.setCell ?_ ?side _; case side => (first | omega | (with_reducible exact Below.size (by assumption)) | (simp; done) | (simp; omega))) | with_reducible refine Below.drew ?_ | with_reducible refine below_drewN ?_ _ | (with_reducible refine below_step (by assumption) ?side ?_; case side => (first | omega | (with_reducible exact Below.size (by assumption)) | (simp; done) | (simp; omega))))
    refine leave_turn (v := .tuple #[.agg #[.int .i64 y0, .int .i64 y1], .int .i64 0]) hD2 (fun W' ht => ?_) (fun W' ht => ⟨by rw [HY.out.1, HY.out.2], ht.below (by omega) (by simp; omega) hw2⟩)
    have d0' := (ht.cell (p := ⟨w.heap.size + 1 + 1 + 1, 0, none⟩) (by simp; omega) (by constructor <;> (show w.heap.size + 1 + 1 + 1 ≠ _; omega))).trans d0
    have d1' := (ht.cell (p := ⟨w.heap.size + 1 + 1 + 1, 1, none⟩) (by simp; omega) (by constructor <;> (show w.heap.size + 1 + 1 + 1 ≠ _; omega))).trans d1
    simp [results, Try.results24, go_sem, d0', d1']
  case hstop => exact fun c W h => h.elim

end Go.Proofs.Ytcinhibmohkeiaa
