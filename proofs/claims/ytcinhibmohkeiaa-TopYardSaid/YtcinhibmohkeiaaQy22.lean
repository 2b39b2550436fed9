/- agrees of checks (layer 5): whether a yard agrees with itself without some comparisons. -/
import Derived.Test.YtcinhibmohkeiaaQy16
import Derived.Test.YtcinhibmohkeiaaQy17
import Derived.Test.YtcinhibmohkeiaaQy21
import Derived.Shelf.Abstract
import Derived.Laws.EntriesVeiled
import Derived.Handy
import Derived.Deep.DrawnRows
import Derived.Deep.DeepCutAuto
import Derived.BigRegionIn
import Derived.Shelf.RegionOpen
import Derived.Deep.RegionHeld3
import Derived.Laws.CopyRow
namespace Go.Proofs.Ytcinhibmohkeiaa
open Go.RowKit
open Go.Sort (grow)
set_option linter.unusedVariables false
set_option linter.unusedSimpArgs false

section
variable {P : Program} {Q : Exit → Act → World → Prop} {F : Fence} {ops : Array Oper} {n : Nat} {S : World → Prop}
/-- two may come up -/
theorem wpAnyK_two {i j : Nat} {o1 o2 : Oper} {fuel : Nat} {listed : Array Bool} {a : Act} {w : World} (hr : Region.ready .any ops listed = [i, j]) (ho1 : ops[i]? = some o1) (ho2 : ops[j]? = some o2)
    (h1 : ∀ K : Act → World → Prop, Shut (∀ a' w', S w' → (S w' → wpAnyK F n P ops Q S fuel (listed.setIfInBounds i true) a' w') → K a' w') → if Region.wanted o1 (yielded ops a.tmps) = true then Oper.wpIn F n P o1 a w K Q else (∀ f, o1.about P w a.eval = some f → F.fn f) ∧ K (a.put o1.dst undef) w)
    (h2 : ∀ K : Act → World → Prop, Shut (∀ a' w', S w' → (S w' → wpAnyK F n P ops Q S fuel (listed.setIfInBounds j true) a' w') → K a' w') → if Region.wanted o2 (yielded ops a.tmps) = true then Oper.wpIn F n P o2 a w K Q else (∀ f, o2.about P w a.eval = some f → F.fn f) ∧ K (a.put o2.dst undef) w) :
    wpAnyK F n P ops Q S (fuel + 1) listed a w := by
  refine ⟨fun h0 => (by rw [hr] at h0; cases h0), fun k hk => ?_⟩
  rw [hr] at hk
  rcases List.mem_cons.1 hk with rfl | hk
  · exact wpOpIn_step ho1 fun K' hK => h1 K' fun a' w' h1 h2 => hK a' w' ⟨h1, h2 h1⟩
  · obtain rfl : k = j := by simpa using hk
    exact wpOpIn_step ho2 fun K' hK => h2 K' fun a' w' h1 h2 => hK a' w' ⟨h1, h2 h1⟩
/-- a whole row is stored -/
theorem wpIn_store_row {o : Oper} {a : Act} {w : World} {K : Act → World → Prop} (ty : TypeId) (x y : Operand) (ho : o.op = .store ty x y) (hn : ∀ f, F.fn f)
    (g : Nat) (cells : Array Value) (hx : a.eval x = .pointer (some ⟨g, 0, none⟩)) (hy : a.eval y = .agg cells)
    (t : TypeId) (old : Array Value) (hg : w.heap[g]? = some (.cells old t (0, 0))) (hi : (P.info? ty).map (·.size) = some cells.size)
    (hold : old.size = cells.size) (h1 : cells.all (·.oneCell') = true)
    (h : K (a.put o.dst undef) (w.setRow g cells)) : o.wpIn F n P a w K Q := by
  have hs : o.semAt F.round a.eval = execOp a.eval o := Oper.semAt_eq _ _ _ (fun c hc => by rw [ho] at hc; cases hc)
  unfold Oper.wpIn
  refine ⟨fun f _ => hn f, ?_⟩
  rw [hs]
  unfold execOp
  simp only [ho, hx, hy, Instr.storeAt, Instr.sureAddr, Sem.run_bind, Sem.run_pure, Result.andThen_ok, run_storeVar_row w g t ty old cells hg hi hold h1]
  exact h
end
theorem below_setRow {B g : Nat} {w W : World} {cs : Array Value} (h : Below B w W) (hg : B ≤ g) : Below B w (W.setRow g cs) :=
  ⟨h.os, h.tape, h.output, by rw [setRow_size]; exact h.size, fun k hk => (setRow_other _ _ _ _ (by omega)).trans (h.block k hk)⟩
theorem blk_setRow {g : Nat} {W : World} {t : TypeId} {old cs : Array Value} (h : Blk W g t old) : Blk (W.setRow g cs) g t cs := setRow_heap _ _ _ _ _ _ h
set_option maxRecDepth 100000 in
set_option maxHeartbeats 3200000 in
theorem agrees_c (A : Option Addr) (n c : Nat) (B : Option Addr) (m d : Nat) (wr : Int) (ms : List Sp) (cs : List Cm5) (g : Nat) (fst cap : Array Value) (without : Nat → Bool) (w : World) (HM : SpsAt w A n ms) (HC : CmsAt w B m cs) (hck : ckY n m ms cs wr = true)
    (HE : ∀ args w, (callFunc g args).run Try.prog w = .ok (.enter g args) w)
    (HF : ∀ k, k < m → ∀ w', Below w.heap.size w w' → Calls Try.prog g (fst.push (.int .i64 k) ++ cap) w' fun e w'' => e = .returned (.bool (without k)) ∧ Below w'.heap.size w' w'') :
    Calls Try.prog 28 #[.agg #[.slice A n c, .slice B m d, .int .i64 wr], .func (.func g) fst cap] w fun e w' => e = .returned (.bool (clB n (clT n (eds5 ms cs fun k => !without k)))) ∧ Below w.heap.size w w' := by
  have enA : ∀ args w, (callFunc 53 args).run Try.prog w = .ok (.enter 53 args) w := enters_of Try.func53 (by kernel_rfl) rfl
  obtain ⟨hn5, hm8, -, -⟩ := ckY_n hck
  have hml := HM.1
  have hcl := HC.1
  have HEC := Lib.hid (fun (V : World) (hV : Below w.heap.size w V) (hB : Blk V (w.heap.size + 1) 76 #[.func (.func g) fst cap]) => edges_c A n c B m d wr ms cs 53 #[] #[.pointer (some ⟨w.heap.size + 1, 0, none⟩)] (fun k => !without k) V (HM.later hV) (HC.later hV) hck enA (fun k hk w' hb => by
    have hB' := hB.below hb hB.lt
    have := agrees1_c (w.heap.size + 1) g fst cap k (without k) w' hB'.lt (hB'.cell 0) HE (HF k hk w' (hV.trans (hb.mono hV.size)))
    simpa using this))
  have hok : EdOk n (eds5 ms cs fun k => !without k) := by
    rw [← hml]
    exact edOk_eds (fun i hi => by have := ckY_c hck (k := i) (by omega); omega)
  have hFl : (eds5 ms cs fun k => !without k).length ≤ 1000 := by
    unfold eds5
    have := edCs_len (cs := cs) (right := fun k => !without k) cs.length
    rw [List.length_append, edMs_len]
    omega
  obtain ⟨F, hF⟩ : ∃ F, (eds5 ms cs fun k => !without k) = F := ⟨_, rfl⟩
  rw [hF] at HEC hok hFl ⊢
  have HCC := Lib.hid (fun L c' V (hL : EdsAt V L F.length F) => closure_c n L F.length c' F V hn5 hFl hok hL)
  have htz : Hid ((tbV (clT n F)).size = 36) := Lib.hid (by unfold tbV; simp [clT_len])
  obtain ⟨b, hb⟩ : ∃ b, clB n (clT n F) = b := ⟨_, rfl⟩
  obtain ⟨T, hT⟩ : ∃ T, clT n F = T := ⟨_, rfl⟩
  rw [hb, hT] at HCC
  rw [hT] at htz
  rw [hb]
  have hsz : Hid ((Try.prog.info? 104).map (·.size) = some (tbV T).size) := Lib.hid (by rw [htz.out]; kernel_rfl)
  have hone : Hid ((tbV T).all (·.oneCell') = true) := Lib.hid (by unfold tbV; simp [Value.oneCell'])
  clear HM HC hck HE HF hml hcl hF hok hFl hb hT enA
  go_enter Try.func28, Try.ntmps28
  go_upto_region 1 with (fail)
  go_name_world X hX
  have BX := (al2 hX).1
  have zX := (al2 hX).2
  have HY0 : Hid (Blk X w.heap.size 51 #[.slice A n c, .slice B m d, .int .i64 wr]) := by rw [← hX]; exact Lib.hid ((Blk.new w _ _).alloc _)
  have HG0 : Hid (Blk X (w.heap.size + 1) 76 #[.func (.func g) fst cap]) := by
    rw [← hX]
    have := Blk.new (w.alloc (.cells #[.slice A n c, .slice B m d, .int .i64 wr] 51)) 76 #[.func (.func g) fst cap]
    rw [World.size_alloc] at this
    exact Lib.hid this
  clear hX
  have HSS : Hid (∀ W', Below X.heap.size X W' → ∀ j, W'.cell? ⟨w.heap.size, j, none⟩ = #[Value.slice A n c, .slice B m d, .int .i64 wr][j]?) := Lib.hid (fun W' h => (HY0.out.below h (by omega)).cell)
  replace HEC : Hid (∀ V, Below X.heap.size X V → Calls Try.prog 52 #[.agg #[.slice A n c, .slice B m d, .int .i64 wr], .func (.func 53) #[] #[.pointer (some ⟨w.heap.size + 1, 0, none⟩)]] V fun e w' => ∃ L c', e = .returned (.slice L F.length c') ∧ EdsAt w' L F.length F ∧ Below V.heap.size V w') := Lib.hid (fun V hV => HEC.out V (BX.trans (hV.mono (by omega))) (HG0.out.below hV (by omega)))
  refine (Go.wpIn_wide (n := 3)).1 ?_
  obtain ⟨Y, hY⟩ : ∃ Y, X.drew = Y := ⟨_, rfl⟩
  have BY : Below X.heap.size X Y := by rw [← hY]; (repeat first | with_reducible assumption | with_reducible exact Below.refl _ _ | (with_reducible refine Below.alloc ?_ ?side _; case side => (first | omega | (with_reducible exact Below.size (by assumption)) | (simp; done) | (simp; omega))) | (with_reducible refine Below.setCell ?_ ?side _; case side => (first | omega | (with_reducible exact Below.size (by assumption)) | (simp; done) | (simp; omega))) | with_reducible refine Below.drew ?_ | with_reducible refine below_drewN ?_ _ | (with_reducible refine below_step (by assumption) ?side ?_; case side => (first | omega | (with_reducible exact Below.size (by assumption)) | (simp; done) | (simp; omega))))
  refine wpIn_mono (Q := fun e a' V => e = .normal ∧ ∃ u5 u7 u8 u9 u10 u11 u12 u13 u14 u15 u16 u17 : Value, a' = { tmps := #[.agg #[.slice A n c, .slice B m d, .int .i64 wr], .func (.func g) fst cap, .pointer (some ⟨w.heap.size, 0, none⟩), .pointer (some ⟨w.heap.size + 1, 0, none⟩), .bool false, u5, .bool b, u7, u8, u9, u10, u11, u12, u13, u14, u15, u16, u17], defers := [] } ∧ Below X.heap.size X V) ?first ?rest
  case first =>
    as_aux_lemma =>
      refine wpIn_region_K (by kernel_rfl) (fun W' => ∀ j, W'.cell? ⟨w.heap.size, j, none⟩ = #[Value.slice A n c, .slice B m d, .int .i64 wr][j]?) ?_
      rw [show ({ X with drawn := X.drawn + 1 } : World) = Y from hY]
      clear hY
      have hS := HSS.out Y BY
      refine wpAnyK_take (fun _ => trivial) (by rfl) (i := 0) (v := ?_) rfl (by kernel_rfl) (by kernel_rfl) (by kernel_rfl) (fun _ _ _ h => by cases h.1) hS (Or.inl ⟨by rfl, ?_⟩) ?_
      rotate_left 1
      · intro w9 hw9
        have s0 := hw9
        go_simp
        try with_reducible rfl
      try simp only [List.getElem_toArray, List.getElem_cons_zero, List.getElem_cons_succ, Act.put, List.setIfInBounds_toArray, List.set_cons_zero, List.set_cons_succ]
      refine wpAnyK_take (fun _ => trivial) (by rfl) (i := 1) (v := ?_) rfl (by kernel_rfl) (by kernel_rfl) (by kernel_rfl) (fun _ _ _ h => by cases h.1) hS (Or.inl ⟨by rfl, ?_⟩) ?_
      rotate_left 1
      · intro w9 hw9
        have s0 := hw9
        go_simp
        try with_reducible rfl
      try simp only [List.getElem_toArray, List.getElem_cons_zero, List.getElem_cons_succ, Act.put, List.setIfInBounds_toArray, List.set_cons_zero, List.set_cons_succ]
      refine wpAnyK_take (fun _ => trivial) (by rfl) (i := 2) (v := ?_) rfl (by kernel_rfl) (by kernel_rfl) (by kernel_rfl) (fun _ _ _ h => by cases h.1) hS (Or.inl ⟨by rfl, ?_⟩) ?_
      rotate_left 1
      · intro w9 hw9
        have s0 := hw9
        go_simp
        try with_reducible rfl
      try simp only [List.getElem_toArray, List.getElem_cons_zero, List.getElem_cons_succ, Act.put, List.setIfInBounds_toArray, List.set_cons_zero, List.set_cons_succ]
      refine wpAnyK_take (fun _ => trivial) (by rfl) (i := 3) (v := ?_) rfl (by kernel_rfl) (by kernel_rfl) (by kernel_rfl) (fun _ _ _ h => by cases h.1) hS (Or.inl ⟨by rfl, ?_⟩) ?_
      rotate_left 1
      · intro w9 hw9
        have s0 := hw9
        go_simp
        try with_reducible rfl
      try simp only [List.getElem_toArray, List.getElem_cons_zero, List.getElem_cons_succ, Act.put, List.setIfInBounds_toArray, List.set_cons_zero, List.set_cons_succ]
      refine wpAnyK_take (fun _ => trivial) (by rfl) (i := 4) (v := ?_) rfl (by kernel_rfl) (by kernel_rfl) (by kernel_rfl) (fun _ _ _ h => by cases h.1) hS (Or.inl ⟨by rfl, ?_⟩) ?_
      rotate_left 1
      · intro w9 hw9
        have s0 := hw9
        go_simp
        try with_reducible rfl
      try simp only [List.getElem_toArray, List.getElem_cons_zero, List.getElem_cons_succ, Act.put, List.setIfInBounds_toArray, List.set_cons_zero, List.set_cons_succ]
      clear hS
      refine wpAnyK_two (i := 5) (j := 10) (by kernel_rfl) rfl rfl (fun K hK => ?_) (fun K hK => ?_)
      · skip
        try refine wpAnyK_one (i := 5) (by kernel_rfl) rfl (fun K hK => ?_)
        go_simp
        first | refine ⟨trivial, CallsIn.inRound _ (callsIn_wide.2 ((HEC.out _ BY).mono ?_))⟩ | refine ⟨trivial, callsIn_wide.2 ((HEC.out _ BY).mono ?_)⟩
        rintro e w5 ⟨L5, c5, rfl, hL5, hb5⟩
        have HL5 := Lib.hid hL5
        have B5 := Below.trans BY (hb5.mono (Below.size BY))
        have HB5 := Lib.hid hb5
        clear hb5 hL5
        refine hK.out _ _ (HSS.out _ B5) (fun _ => ?_)
        clear hK K
        try simp only [List.getElem_toArray, List.getElem_cons_zero, List.getElem_cons_succ, Act.put, List.setIfInBounds_toArray, List.set_cons_zero, List.set_cons_succ]
        refine wpAnyK_two (i := 6) (j := 10) (by kernel_rfl) rfl rfl (fun K hK => ?_) (fun K hK => ?_)
        · skip
          try refine wpAnyK_one (i := 6) (by kernel_rfl) rfl (fun K hK => ?_)
          go_simp
          first | refine ⟨trivial, CallsIn.inRound _ (callsIn_wide.2 ((HCC.out L5 c5 _ HL5.out).mono ?_))⟩ | refine ⟨trivial, callsIn_wide.2 ((HCC.out L5 c5 _ HL5.out).mono ?_)⟩
          rintro e w6 ⟨rfl, hb6⟩
          have B6 := Below.trans B5 (hb6.mono (Below.size B5))
          have HB6 := Lib.hid hb6
          clear hb6
          refine hK.out _ _ (HSS.out _ B6) (fun _ => ?_)
          clear hK K
          try simp only [List.getElem_toArray, List.getElem_cons_zero, List.getElem_cons_succ, Act.put, List.setIfInBounds_toArray, List.set_cons_zero, List.set_cons_succ]
          have hS := HSS.out _ B6
          refine wpAnyK_take (fun _ => trivial) (by rfl) (i := 7) (v := ?_) rfl (by kernel_rfl) (by kernel_rfl) (by kernel_rfl) (fun _ _ _ h => by cases h.1) hS (Or.inl ⟨by rfl, ?_⟩) ?_
          rotate_left 1
          · intro w9 hw9
            have s0 := hw9
            go_simp
            try with_reducible rfl
          try simp only [List.getElem_toArray, List.getElem_cons_zero, List.getElem_cons_succ, Act.put, List.setIfInBounds_toArray, List.set_cons_zero, List.set_cons_succ]
          refine wpAnyK_take (fun _ => trivial) (by rfl) (i := 8) (v := ?_) rfl (by kernel_rfl) (by kernel_rfl) (by kernel_rfl) (fun _ _ _ h => by cases h.1) hS (Or.inl ⟨by rfl, ?_⟩) ?_
          rotate_left 1
          · intro w9 hw9
            have s0 := hw9
            go_simp
            try with_reducible rfl
          try simp only [List.getElem_toArray, List.getElem_cons_zero, List.getElem_cons_succ, Act.put, List.setIfInBounds_toArray, List.set_cons_zero, List.set_cons_succ]
          refine wpAnyK_take (fun _ => trivial) (by rfl) (i := 9) (v := ?_) rfl (by kernel_rfl) (by kernel_rfl) (by kernel_rfl) (fun _ _ _ h => by cases h.1) hS (Or.inl ⟨by rfl, ?_⟩) ?_
          rotate_left 1
          · intro w9 hw9
            have s0 := hw9
            go_simp
            try with_reducible rfl
          try simp only [List.getElem_toArray, List.getElem_cons_zero, List.getElem_cons_succ, Act.put, List.setIfInBounds_toArray, List.set_cons_zero, List.set_cons_succ]
          clear hS
          try refine wpAnyK_one (i := 10) (by kernel_rfl) rfl (fun K hK => ?_)
          go_simp
          obtain ⟨Z, c0, hc0, hz0, BZ0, HZ0⟩ : ∃ (Z : World) (c0 : Array Value), c0.size = 36 ∧ World.alloc w6 (.cells #[.int .i64 0, .int .i64 0, .int .i64 0, .int .i64 0, .int .i64 0, .int .i64 0, .int .i64 0, .int .i64 0, .int .i64 0, .int .i64 0, .int .i64 0, .int .i64 0, .int .i64 0, .int .i64 0, .int .i64 0, .int .i64 0, .int .i64 0, .int .i64 0, .int .i64 0, .int .i64 0, .int .i64 0, .int .i64 0, .int .i64 0, .int .i64 0, .int .i64 0, .int .i64 0, .int .i64 0, .int .i64 0, .int .i64 0, .int .i64 0, .int .i64 0, .int .i64 0, .int .i64 0, .int .i64 0, .int .i64 0, .int .i64 0] 104) = Z ∧ Below (w6).heap.size w6 Z ∧ Blk Z (w6).heap.size 104 c0 := ⟨_, _, rfl, rfl, (Below.refl _ _).alloc (Nat.le_refl _) _, Blk.new _ _ _⟩
          rw [hz0]
          clear hz0
          have HZ0 := Lib.hid HZ0
          have BZ := Below.trans B6 (BZ0.mono (Below.size B6))
          refine hK.out _ _ (HSS.out _ BZ) (fun _ => ?_)
          clear hK K
          try simp only [List.getElem_toArray, List.getElem_cons_zero, List.getElem_cons_succ, Act.put, List.setIfInBounds_toArray, List.set_cons_zero, List.set_cons_succ]
          have hst := (HZ0).out
          have hlt := hst.lt
          refine wpAnyK_one (i := 11) (by kernel_rfl) rfl (fun K hK => ?_)
          rw [if_pos (by rfl)]
          refine wpIn_store_row 104 (.tmp 5) (.tmp 15) rfl (fun _ => trivial) _ (tbV T) rfl rfl 104 c0 hst hsz.out (by rw [hc0, htz.out]) hone.out ?_
          have B7 := below_setRow (cs := tbV T) BZ B6.size
          refine hK.out _ _ (HSS.out _ B7) (fun _ => ?_)
          clear hK K
          try simp only [List.getElem_toArray, List.getElem_cons_zero, List.getElem_cons_succ, Act.put, List.setIfInBounds_toArray, List.set_cons_zero, List.set_cons_succ]
          have hS := HSS.out _ B7
          refine wpAnyK_take (fun _ => trivial) (by rfl) (i := 12) (v := ?_) rfl (by kernel_rfl) (by kernel_rfl) (by kernel_rfl) (fun _ _ _ h => by cases h.1) hS (Or.inl ⟨by rfl, ?_⟩) ?_
          rotate_left 1
          · intro w9 hw9
            have s0 := hw9
            go_simp
            try with_reducible rfl
          try simp only [List.getElem_toArray, List.getElem_cons_zero, List.getElem_cons_succ, Act.put, List.setIfInBounds_toArray, List.set_cons_zero, List.set_cons_succ]
          refine wpAnyK_done (by kernel_rfl) ?_ _
          exact ⟨rfl, _, _, _, _, _, _, _, _, _, _, _, _, rfl, B7⟩
        · skip
          try refine wpAnyK_one (i := 10) (by kernel_rfl) rfl (fun K hK => ?_)
          go_simp
          obtain ⟨Z, c0, hc0, hz0, BZ0, HZ0⟩ : ∃ (Z : World) (c0 : Array Value), c0.size = 36 ∧ World.alloc w5 (.cells #[.int .i64 0, .int .i64 0, .int .i64 0, .int .i64 0, .int .i64 0, .int .i64 0, .int .i64 0, .int .i64 0, .int .i64 0, .int .i64 0, .int .i64 0, .int .i64 0, .int .i64 0, .int .i64 0, .int .i64 0, .int .i64 0, .int .i64 0, .int .i64 0, .int .i64 0, .int .i64 0, .int .i64 0, .int .i64 0, .int .i64 0, .int .i64 0, .int .i64 0, .int .i64 0, .int .i64 0, .int .i64 0, .int .i64 0, .int .i64 0, .int .i64 0, .int .i64 0, .int .i64 0, .int .i64 0, .int .i64 0, .int .i64 0] 104) = Z ∧ Below (w5).heap.size w5 Z ∧ Blk Z (w5).heap.size 104 c0 := ⟨_, _, rfl, rfl, (Below.refl _ _).alloc (Nat.le_refl _) _, Blk.new _ _ _⟩
          rw [hz0]
          clear hz0
          have HZ0 := Lib.hid HZ0
          have BZ := Below.trans B5 (BZ0.mono (Below.size B5))
          refine hK.out _ _ (HSS.out _ BZ) (fun _ => ?_)
          clear hK K
          try simp only [List.getElem_toArray, List.getElem_cons_zero, List.getElem_cons_succ, Act.put, List.setIfInBounds_toArray, List.set_cons_zero, List.set_cons_succ]
          try refine wpAnyK_one (i := 6) (by kernel_rfl) rfl (fun K hK => ?_)
          go_simp
          first | refine ⟨trivial, CallsIn.inRound _ (callsIn_wide.2 ((HCC.out L5 c5 _ (HL5.out.later BZ0)).mono ?_))⟩ | refine ⟨trivial, callsIn_wide.2 ((HCC.out L5 c5 _ (HL5.out.later BZ0)).mono ?_)⟩
          rintro e w6 ⟨rfl, hb6⟩
          have B6 := Below.trans BZ (hb6.mono (Below.size BZ))
          have HB6 := Lib.hid hb6
          clear hb6
          refine hK.out _ _ (HSS.out _ B6) (fun _ => ?_)
          clear hK K
          try simp only [List.getElem_toArray, List.getElem_cons_zero, List.getElem_cons_succ, Act.put, List.setIfInBounds_toArray, List.set_cons_zero, List.set_cons_succ]
          have hS := HSS.out _ B6
          refine wpAnyK_take (fun _ => trivial) (by rfl) (i := 7) (v := ?_) rfl (by kernel_rfl) (by kernel_rfl) (by kernel_rfl) (fun _ _ _ h => by cases h.1) hS (Or.inl ⟨by rfl, ?_⟩) ?_
          rotate_left 1
          · intro w9 hw9
            have s0 := hw9
            go_simp
            try with_reducible rfl
          try simp only [List.getElem_toArray, List.getElem_cons_zero, List.getElem_cons_succ, Act.put, List.setIfInBounds_toArray, List.set_cons_zero, List.set_cons_succ]
          refine wpAnyK_take (fun _ => trivial) (by rfl) (i := 8) (v := ?_) rfl (by kernel_rfl) (by kernel_rfl) (by kernel_rfl) (fun _ _ _ h => by cases h.1) hS (Or.inl ⟨by rfl, ?_⟩) ?_
          rotate_left 1
          · intro w9 hw9
            have s0 := hw9
            go_simp
            try with_reducible rfl
          try simp only [List.getElem_toArray, List.getElem_cons_zero, List.getElem_cons_succ, Act.put, List.setIfInBounds_toArray, List.set_cons_zero, List.set_cons_succ]
          refine wpAnyK_take (fun _ => trivial) (by rfl) (i := 9) (v := ?_) rfl (by kernel_rfl) (by kernel_rfl) (by kernel_rfl) (fun _ _ _ h => by cases h.1) hS (Or.inl ⟨by rfl, ?_⟩) ?_
          rotate_left 1
          · intro w9 hw9
            have s0 := hw9
            go_simp
            try with_reducible rfl
          try simp only [List.getElem_toArray, List.getElem_cons_zero, List.getElem_cons_succ, Act.put, List.setIfInBounds_toArray, List.set_cons_zero, List.set_cons_succ]
          clear hS
          have HZ1 := Lib.hid (HZ0.out.below HB6.out HZ0.out.lt)
          have hst := (HZ1).out
          have hlt := hst.lt
          refine wpAnyK_one (i := 11) (by kernel_rfl) rfl (fun K hK => ?_)
          rw [if_pos (by rfl)]
          refine wpIn_store_row 104 (.tmp 5) (.tmp 15) rfl (fun _ => trivial) _ (tbV T) rfl rfl 104 c0 hst hsz.out (by rw [hc0, htz.out]) hone.out ?_
          have B7 := below_setRow (cs := tbV T) B6 B5.size
          refine hK.out _ _ (HSS.out _ B7) (fun _ => ?_)
          clear hK K
          try simp only [List.getElem_toArray, List.getElem_cons_zero, List.getElem_cons_succ, Act.put, List.setIfInBounds_toArray, List.set_cons_zero, List.set_cons_succ]
          have hS := HSS.out _ B7
          refine wpAnyK_take (fun _ => trivial) (by rfl) (i := 12) (v := ?_) rfl (by kernel_rfl) (by kernel_rfl) (by kernel_rfl) (fun _ _ _ h => by cases h.1) hS (Or.inl ⟨by rfl, ?_⟩) ?_
          rotate_left 1
          · intro w9 hw9
            have s0 := hw9
            go_simp
            try with_reducible rfl
          try simp only [List.getElem_toArray, List.getElem_cons_zero, List.getElem_cons_succ, Act.put, List.setIfInBounds_toArray, List.set_cons_zero, List.set_cons_succ]
          refine wpAnyK_done (by kernel_rfl) ?_ _
          exact ⟨rfl, _, _, _, _, _, _, _, _, _, _, _, _, rfl, B7⟩
      · skip
        try refine wpAnyK_one (i := 10) (by kernel_rfl) rfl (fun K hK => ?_)
        go_simp
        obtain ⟨Z, c0, hc0, hz0, BZ0, HZ0⟩ : ∃ (Z : World) (c0 : Array Value), c0.size = 36 ∧ World.alloc Y (.cells #[.int .i64 0, .int .i64 0, .int .i64 0, .int .i64 0, .int .i64 0, .int .i64 0, .int .i64 0, .int .i64 0, .int .i64 0, .int .i64 0, .int .i64 0, .int .i64 0, .int .i64 0, .int .i64 0, .int .i64 0, .int .i64 0, .int .i64 0, .int .i64 0, .int .i64 0, .int .i64 0, .int .i64 0, .int .i64 0, .int .i64 0, .int .i64 0, .int .i64 0, .int .i64 0, .int .i64 0, .int .i64 0, .int .i64 0, .int .i64 0, .int .i64 0, .int .i64 0, .int .i64 0, .int .i64 0, .int .i64 0, .int .i64 0] 104) = Z ∧ Below (Y).heap.size Y Z ∧ Blk Z (Y).heap.size 104 c0 := ⟨_, _, rfl, rfl, (Below.refl _ _).alloc (Nat.le_refl _) _, Blk.new _ _ _⟩
        rw [hz0]
        clear hz0
        have HZ0 := Lib.hid HZ0
        have BZ := Below.trans BY (BZ0.mono (Below.size BY))
        refine hK.out _ _ (HSS.out _ BZ) (fun _ => ?_)
        clear hK K
        try simp only [List.getElem_toArray, List.getElem_cons_zero, List.getElem_cons_succ, Act.put, List.setIfInBounds_toArray, List.set_cons_zero, List.set_cons_succ]
        try refine wpAnyK_one (i := 5) (by kernel_rfl) rfl (fun K hK => ?_)
        go_simp
        first | refine ⟨trivial, CallsIn.inRound _ (callsIn_wide.2 ((HEC.out _ BZ).mono ?_))⟩ | refine ⟨trivial, callsIn_wide.2 ((HEC.out _ BZ).mono ?_)⟩
        rintro e w5 ⟨L5, c5, rfl, hL5, hb5⟩
        have HL5 := Lib.hid hL5
        have B5 := Below.trans BZ (hb5.mono (Below.size BZ))
        have HB5 := Lib.hid hb5
        clear hb5 hL5
        refine hK.out _ _ (HSS.out _ B5) (fun _ => ?_)
        clear hK K
        try simp only [List.getElem_toArray, List.getElem_cons_zero, List.getElem_cons_succ, Act.put, List.setIfInBounds_toArray, List.set_cons_zero, List.set_cons_succ]
        try refine wpAnyK_one (i := 6) (by kernel_rfl) rfl (fun K hK => ?_)
        go_simp
        first | refine ⟨trivial, CallsIn.inRound _ (callsIn_wide.2 ((HCC.out L5 c5 _ HL5.out).mono ?_))⟩ | refine ⟨trivial, callsIn_wide.2 ((HCC.out L5 c5 _ HL5.out).mono ?_)⟩
        rintro e w6 ⟨rfl, hb6⟩
        have B6 := Below.trans B5 (hb6.mono (Below.size B5))
        have HB6 := Lib.hid hb6
        clear hb6
        refine hK.out _ _ (HSS.out _ B6) (fun _ => ?_)
        clear hK K
        try simp only [List.getElem_toArray, List.getElem_cons_zero, List.getElem_cons_succ, Act.put, List.setIfInBounds_toArray, List.set_cons_zero, List.set_cons_succ]
        have hS := HSS.out _ B6
        refine wpAnyK_take (fun _ => trivial) (by rfl) (i := 7) (v := ?_) rfl (by kernel_rfl) (by kernel_rfl) (by kernel_rfl) (fun _ _ _ h => by cases h.1) hS (Or.inl ⟨by rfl, ?_⟩) ?_
        rotate_left 1
        · intro w9 hw9
          have s0 := hw9
          go_simp
          try with_reducible rfl
        try simp only [List.getElem_toArray, List.getElem_cons_zero, List.getElem_cons_succ, Act.put, List.setIfInBounds_toArray, List.set_cons_zero, List.set_cons_succ]
        refine wpAnyK_take (fun _ => trivial) (by rfl) (i := 8) (v := ?_) rfl (by kernel_rfl) (by kernel_rfl) (by kernel_rfl) (fun _ _ _ h => by cases h.1) hS (Or.inl ⟨by rfl, ?_⟩) ?_
        rotate_left 1
        · intro w9 hw9
          have s0 := hw9
          go_simp
          try with_reducible rfl
        try simp only [List.getElem_toArray, List.getElem_cons_zero, List.getElem_cons_succ, Act.put, List.setIfInBounds_toArray, List.set_cons_zero, List.set_cons_succ]
        refine wpAnyK_take (fun _ => trivial) (by rfl) (i := 9) (v := ?_) rfl (by kernel_rfl) (by kernel_rfl) (by kernel_rfl) (fun _ _ _ h => by cases h.1) hS (Or.inl ⟨by rfl, ?_⟩) ?_
        rotate_left 1
        · intro w9 hw9
          have s0 := hw9
          go_simp
          try with_reducible rfl
        try simp only [List.getElem_toArray, List.getElem_cons_zero, List.getElem_cons_succ, Act.put, List.setIfInBounds_toArray, List.set_cons_zero, List.set_cons_succ]
        clear hS
        have HZ1 := Lib.hid (HZ0.out.below (HB5.out.trans (HB6.out.mono HB5.out.size)) HZ0.out.lt)
        have hst := (HZ1).out
        have hlt := hst.lt
        refine wpAnyK_one (i := 11) (by kernel_rfl) rfl (fun K hK => ?_)
        rw [if_pos (by rfl)]
        refine wpIn_store_row 104 (.tmp 5) (.tmp 15) rfl (fun _ => trivial) _ (tbV T) rfl rfl 104 c0 hst hsz.out (by rw [hc0, htz.out]) hone.out ?_
        have B7 := below_setRow (cs := tbV T) B6 BY.size
        refine hK.out _ _ (HSS.out _ B7) (fun _ => ?_)
        clear hK K
        try simp only [List.getElem_toArray, List.getElem_cons_zero, List.getElem_cons_succ, Act.put, List.setIfInBounds_toArray, List.set_cons_zero, List.set_cons_succ]
        have hS := HSS.out _ B7
        refine wpAnyK_take (fun _ => trivial) (by rfl) (i := 12) (v := ?_) rfl (by kernel_rfl) (by kernel_rfl) (by kernel_rfl) (fun _ _ _ h => by cases h.1) hS (Or.inl ⟨by rfl, ?_⟩) ?_
        rotate_left 1
        · intro w9 hw9
          have s0 := hw9
          go_simp
          try with_reducible rfl
        try simp only [List.getElem_toArray, List.getElem_cons_zero, List.getElem_cons_succ, Act.put, List.setIfInBounds_toArray, List.set_cons_zero, List.set_cons_succ]
        refine wpAnyK_done (by kernel_rfl) ?_ _
        exact ⟨rfl, _, _, _, _, _, _, _, _, _, _, _, _, rfl, B7⟩
  case rest =>
    rintro e a' V ⟨rfl, u5, u7, u8, u9, u10, u11, u12, u13, u14, u15, u16, u17, rfl, hV⟩
    go_wp2_with fail
    go_ret
    exact ⟨rfl, BX.trans (hV.mono (by omega))⟩

end Go.Proofs.Ytcinhibmohkeiaa
