/- RepairsStrong (layer 7): the walk. -/
import Derived.Test.YthjjakhmbgnnnaaLv7
import Derived.Test.YthjjakhmbgnnnaaCp7
namespace Go.Proofs.Ythjjakhmbgnnnaa
open Go.RowKit
open Go.Sort (grow)
set_option linter.unusedVariables false

/-- the copied cable with a need of its own -/
structure OMid (X : World) (g n : Nat) (A1 : Option Addr) (k1 : Nat) (q : Cb) (v : Int) (ls : List Sp) (base : Nat) (V : World) : Prop where
  bel : Below X.heap.size X V
  blk : Blk V g 24 #[.slice A1 n k1, .int .i64 v, .int .i64 q.gap, .int .i64 q.doubt, .int .i64 q.joins, .int .i64 q.least]
  own : V.ownsRow base 35 2 (.slice A1 n k1) n (ls.flatMap encS)
  ne : ∀ k, (Value.slice A1 n k1).ownBlock = some k → k ≠ g
  hg : X.heap.size ≤ g
theorem OMid.later {X : World} {g n : Nat} {A1 : Option Addr} {k1 : Nat} {q : Cb} {v : Int} {ls : List Sp} {base : Nat} {V V' : World} (h : OMid X g n A1 k1 q v ls base V) (hb : Below V.heap.size V V') : OMid X g n A1 k1 q v ls base V' :=
  ⟨h.bel.trans (hb.mono h.bel.size), h.blk.below hb h.blk.lt, own_below h.own hb, h.ne, h.hg⟩
theorem OMid.set {X : World} {g n : Nat} {A1 : Option Addr} {k1 : Nat} {q : Cb} {v : Int} {ls : List Sp} {base : Nat} {V : World} (h : OMid X g n A1 k1 q v ls base V) (v' : Int) : OMid X g n A1 k1 q v' ls base (V.setCell ⟨g, 1, none⟩ (.int .i64 v')) :=
  ⟨h.bel.setCell h.hg _, by have := h.blk.set_ 1 (.int .i64 v'); simpa using this, own_set h.own (fun k hk => h.ne k hk), h.ne, h.hg⟩
theorem at_ck {n : Nat} {ls : List Sp} {q : Cb} {v : Int} (h : ckC n ls q = true) (hv : 0 ≤ v ∧ v ≤ 9999) : ckC n ls (q.at_ v) = true := by
  simp only [ckC, Bool.and_eq_true] at h ⊢
  obtain ⟨⟨h1, -, h3⟩, h4⟩ := h
  exact ⟨⟨h1, wi_true.2 hv, h3⟩, h4⟩
/-- what Fewest of the cable with another need says -/
theorem few_at {n : Nat} {ls : List Sp} {q : Cb} {cuts v : Int} (h : ckC n ls q = true) (hv : 0 ≤ v ∧ v ≤ 9999) :
    (okB q ls n cuts v = true → erS n ls (q.at_ v) = 0 ∧ ((plC n ls (q.at_ v)).length : Int) ≤ cuts) ∧ (okB q ls n cuts v = false → erS n ls (q.at_ v) = 3 ∨ erS n ls (q.at_ v) = 0 ∧ cuts < ((plC n ls (q.at_ v)).length : Int)) := by
  have hck := at_ck h hv
  rw [okB_run hck]
  refine ⟨fun e => ?_, fun e => ?_⟩
  · simp only [Bool.and_eq_true, beq_iff_eq, decide_eq_true_eq] at e
    exact e
  · rcases er_cases hck with ⟨z, -⟩ | ⟨z, -⟩
    · rw [z] at e
      refine .inr ⟨z, ?_⟩
      simp at e
      exact e
    · exact .inl z
theorem strong_vals {n : Nat} {ls : List Sp} {q : Cb} {cuts more : Int} (h : ckC n ls q = true) (hl : ls.length = n) (hc : 0 ≤ cuts ∧ cuts ≤ 12) (hm : 1 ≤ more) :
    (stR n ls q cuts = (0, 3) ∧ (erS n ls (q.at_ 0) = 3 ∨ erS n ls (q.at_ 0) = 0 ∧ cuts < ((plC n ls (q.at_ 0)).length : Int))) ∨
    ∃ b, stR n ls q cuts = (b, 0) ∧ (0 ≤ b ∧ b ≤ 9999) ∧ (erS n ls (q.at_ b) = 0 ∧ ((plC n ls (q.at_ b)).length : Int) ≤ cuts) ∧
      (b + more ≤ 9999 → erS n ls (q.at_ (b + more)) = 3 ∨ erS n ls (q.at_ (b + more)) = 0 ∧ cuts < ((plC n ls (q.at_ (b + more))).length : Int)) ∧
      (cuts < 12 → ∃ b', stR n ls q (cuts + 1) = (b', 0) ∧ b ≤ b') := by
  have hs := okSp_of hl h
  rcases str_cases (q := q) (ls := ls) h hc with ⟨z, hn⟩ | ⟨b, z, hb⟩
  · refine .inl ⟨z, (few_at h (by omega)).2 ?_⟩
    refine Bool.eq_false_iff.2 fun e => ?_
    obtain ⟨b, hb, -⟩ := (strong_iff hs (by omega)).1 e
    rw [hn] at hb; cases hb
  · have hbd := str_bd hs hb
    have hok : okB q ls n cuts b = true := (strong_iff hs hbd.2).2 ⟨b, hb, Int.le_refl _⟩
    refine .inr ⟨b, z, hbd, (few_at h hbd).1 hok, fun hle => (few_at h (by omega)).2 ?_, fun hlt => ?_⟩
    · refine Bool.eq_false_iff.2 fun e => ?_
      obtain ⟨b', hb', h'⟩ := (strong_iff hs hle).1 e
      rw [hb] at hb'
      have := Option.some.inj hb'
      omega
    · have hok' : okB q ls n (cuts + 1) b = true := by
        unfold okB at hok ⊢
        cases e : fewO (q.at_ b) ls n with
        | none => rw [e] at hok; cases hok
        | some k => rw [e] at hok; simp at hok ⊢; omega
      obtain ⟨b', hb', hle⟩ := (strong_iff hs hbd.2).1 hok'
      rcases str_cases (q := q) (ls := ls) (cuts := cuts + 1) h (by omega) with ⟨z', hn⟩ | ⟨b2, z', hb2⟩
      · rw [hb'] at hn; cases hn
      · rw [hb'] at hb2
        have := Option.some.inj hb2
        exact ⟨b2, z', by omega⟩
set_option maxRecDepth 100000 in
set_option maxHeartbeats 6400000 in
theorem StrongLaw_c (A : Option Addr) (n c : Nat) (q : Cb) (ls : List Sp) (x0 x1 x2 more : Int) (w : World) (hq : CbOk q) (HL : SpsAt w A n ls) (hn : n ≤ 9223372036854775807) :
    Calls Try.prog 5 #[.agg #[.slice A n c, .int .i64 q.need, .int .i64 q.gap, .int .i64 q.doubt, .int .i64 q.joins, .int .i64 q.least], .agg #[.int .i64 x0, .int .i64 x1, .int .i64 x2], .int .i64 more] w
      fun e w' => e = .returned (.bool true) ∧ Below w.heap.size w w' := by
  have hrd : ∀ Z, Below w.heap.size w Z → Calls Try.prog 12 #[.agg #[.slice A n c, .int .i64 q.need, .int .i64 q.gap, .int .i64 q.doubt, .int .i64 q.joins, .int .i64 q.least]] Z fun e Z' => e = .returned (.bool (rdyC n ls q)) ∧ Below Z.heap.size Z Z' := fun Z hZ => ready_c A n c q ls Z (HL.later hZ)
  have hak : ∀ Z, Calls Try.prog 13 #[.agg #[.int .i64 x0, .int .i64 x1, .int .i64 x2]] Z fun e Z' => e = .returned (.bool (askC x0 x1 x2)) ∧ Below Z.heap.size Z Z' := fun Z => isAsk_c x0 x1 x2 Z
  have hwk := Lib.hid works_c
  cases er : rdyC n ls q
  · rw [er] at hrd
    replace hrd := Lib.hid hrd
    clear hak er HL hq hn
    go_enter Try.func5, Try.ntmps5
    go_wp2_with fail
    obtain ⟨X, hX⟩ : ∃ X, (w.alloc (.cells #[.slice A n c, .int .i64 q.need, .int .i64 q.gap, .int .i64 q.doubt, .int .i64 q.joins, .int .i64 q.least] 24)).alloc (.cells #[.int .i64 x0, .int .i64 x1, .int .i64 x2] 28) = X := ⟨_, rfl⟩
    rw [hX]
    have BX : Below w.heap.size w X := (al2 hX).1
    have zX : X.heap.size = w.heap.size + 2 := (al2 hX).2
    have P0 := Lib.hid (al2_0 hX).2.1
    have P1 := Lib.hid (al2_1 hX).2.1
    have zw : w.heap.size ≤ X.heap.size := by omega
    have n0 : w.heap.size < X.heap.size := by omega
    have n1 : w.heap.size + 1 < X.heap.size := by omega
    clear hX
    refine (hrd.out X BX).mono ?_
    rintro e w1 ⟨rfl, hb1⟩
    have b1 := hb1
    clear hb1
    have c1_0 := fun j => (b1.cell (p := ⟨w.heap.size, j, none⟩) n0).trans (P0.out j)
    have c1_1 := fun j => (b1.cell (p := ⟨w.heap.size + 1, j, none⟩) n1).trans (P1.out j)
    have z1 := b1.size
    go_wp2_with fail
    refine (hwk.out _).mono ?_
    rintro e w99 ⟨rfl, hb99⟩
    go_wp2
    go_ret
    exact ⟨rfl, BX.trans (Below.mono (b1.trans (hb99.mono z1)) zw)⟩
  rw [er] at hrd
  replace hrd := Lib.hid hrd
  cases ea : askC x0 x1 x2
  · rw [ea] at hak
    replace hak := Lib.hid hak
    clear er ea HL hq hn
    go_enter Try.func5, Try.ntmps5
    go_wp2_with fail
    obtain ⟨X, hX⟩ : ∃ X, (w.alloc (.cells #[.slice A n c, .int .i64 q.need, .int .i64 q.gap, .int .i64 q.doubt, .int .i64 q.joins, .int .i64 q.least] 24)).alloc (.cells #[.int .i64 x0, .int .i64 x1, .int .i64 x2] 28) = X := ⟨_, rfl⟩
    rw [hX]
    have BX : Below w.heap.size w X := (al2 hX).1
    have zX : X.heap.size = w.heap.size + 2 := (al2 hX).2
    have P0 := Lib.hid (al2_0 hX).2.1
    have P1 := Lib.hid (al2_1 hX).2.1
    have zw : w.heap.size ≤ X.heap.size := by omega
    have n0 : w.heap.size < X.heap.size := by omega
    have n1 : w.heap.size + 1 < X.heap.size := by omega
    clear hX
    refine (hrd.out X BX).mono ?_
    rintro e w1 ⟨rfl, hb1⟩
    have b1 := hb1
    clear hb1
    have c1_0 := fun j => (b1.cell (p := ⟨w.heap.size, j, none⟩) n0).trans (P0.out j)
    have c1_1 := fun j => (b1.cell (p := ⟨w.heap.size + 1, j, none⟩) n1).trans (P1.out j)
    have z1 := b1.size
    go_wp2_with fail
    refine (hak.out _).mono ?_
    rintro e w2 ⟨rfl, hb2⟩
    have b2 : Below X.heap.size X w2 := b1.trans (hb2.mono z1)
    clear hb2 c1_0 c1_1 b1
    have c2_0 := fun j => (b2.cell (p := ⟨w.heap.size, j, none⟩) n0).trans (P0.out j)
    have c2_1 := fun j => (b2.cell (p := ⟨w.heap.size + 1, j, none⟩) n1).trans (P1.out j)
    have z2 := b2.size
    go_wp2_with fail
    refine (hwk.out _).mono ?_
    rintro e w99 ⟨rfl, hb99⟩
    go_wp2
    go_ret
    exact ⟨rfl, BX.trans (Below.mono (b2.trans (hb99.mono z2)) zw)⟩
  rw [ea] at hak
  replace hak := Lib.hid hak
  by_cases hm1 : more < 1
  · clear er ea HL hq hn
    go_enter Try.func5, Try.ntmps5
    go_wp2_with fail
    obtain ⟨X, hX⟩ : ∃ X, (w.alloc (.cells #[.slice A n c, .int .i64 q.need, .int .i64 q.gap, .int .i64 q.doubt, .int .i64 q.joins, .int .i64 q.least] 24)).alloc (.cells #[.int .i64 x0, .int .i64 x1, .int .i64 x2] 28) = X := ⟨_, rfl⟩
    rw [hX]
    have BX : Below w.heap.size w X := (al2 hX).1
    have zX : X.heap.size = w.heap.size + 2 := (al2 hX).2
    have P0 := Lib.hid (al2_0 hX).2.1
    have P1 := Lib.hid (al2_1 hX).2.1
    have zw : w.heap.size ≤ X.heap.size := by omega
    have n0 : w.heap.size < X.heap.size := by omega
    have n1 : w.heap.size + 1 < X.heap.size := by omega
    clear hX
    refine (hrd.out X BX).mono ?_
    rintro e w1 ⟨rfl, hb1⟩
    have b1 := hb1
    clear hb1
    have c1_0 := fun j => (b1.cell (p := ⟨w.heap.size, j, none⟩) n0).trans (P0.out j)
    have c1_1 := fun j => (b1.cell (p := ⟨w.heap.size + 1, j, none⟩) n1).trans (P1.out j)
    have z1 := b1.size
    go_wp2_with fail
    refine (hak.out _).mono ?_
    rintro e w2 ⟨rfl, hb2⟩
    have b2 : Below X.heap.size X w2 := b1.trans (hb2.mono z1)
    clear hb2 c1_0 c1_1 b1
    have c2_0 := fun j => (b2.cell (p := ⟨w.heap.size, j, none⟩) n0).trans (P0.out j)
    have c2_1 := fun j => (b2.cell (p := ⟨w.heap.size + 1, j, none⟩) n1).trans (P1.out j)
    have z2 := b2.size
    go_wp2_with fail
    refine (hwk.out _).mono ?_
    rintro e w99 ⟨rfl, hb99⟩
    go_wp2
    go_ret
    exact ⟨rfl, BX.trans (Below.mono (b2.trans (hb99.mono z2)) zw)⟩
  by_cases hm2 : 9999 < more
  · clear er ea HL hq hn
    go_enter Try.func5, Try.ntmps5
    go_wp2_with fail
    obtain ⟨X, hX⟩ : ∃ X, (w.alloc (.cells #[.slice A n c, .int .i64 q.need, .int .i64 q.gap, .int .i64 q.doubt, .int .i64 q.joins, .int .i64 q.least] 24)).alloc (.cells #[.int .i64 x0, .int .i64 x1, .int .i64 x2] 28) = X := ⟨_, rfl⟩
    rw [hX]
    have BX : Below w.heap.size w X := (al2 hX).1
    have zX : X.heap.size = w.heap.size + 2 := (al2 hX).2
    have P0 := Lib.hid (al2_0 hX).2.1
    have P1 := Lib.hid (al2_1 hX).2.1
    have zw : w.heap.size ≤ X.heap.size := by omega
    have n0 : w.heap.size < X.heap.size := by omega
    have n1 : w.heap.size + 1 < X.heap.size := by omega
    clear hX
    refine (hrd.out X BX).mono ?_
    rintro e w1 ⟨rfl, hb1⟩
    have b1 := hb1
    clear hb1
    have c1_0 := fun j => (b1.cell (p := ⟨w.heap.size, j, none⟩) n0).trans (P0.out j)
    have c1_1 := fun j => (b1.cell (p := ⟨w.heap.size + 1, j, none⟩) n1).trans (P1.out j)
    have z1 := b1.size
    go_wp2_with fail
    refine (hak.out _).mono ?_
    rintro e w2 ⟨rfl, hb2⟩
    have b2 : Below X.heap.size X w2 := b1.trans (hb2.mono z1)
    clear hb2 c1_0 c1_1 b1
    have c2_0 := fun j => (b2.cell (p := ⟨w.heap.size, j, none⟩) n0).trans (P0.out j)
    have c2_1 := fun j => (b2.cell (p := ⟨w.heap.size + 1, j, none⟩) n1).trans (P1.out j)
    have z2 := b2.size
    go_wp2_with fail
    refine (hwk.out _).mono ?_
    rintro e w99 ⟨rfl, hb99⟩
    go_wp2
    go_ret
    exact ⟨rfl, BX.trans (Below.mono (b2.trans (hb99.mono z2)) zw)⟩
  obtain ⟨hn8, hck⟩ := rdyC_len er
  obtain ⟨-, -, hc0, hc1⟩ := askC_iff.1 ea
  have HLI := Lib.hid HL
  have HCK := Lib.hid hck
  have HQ := Lib.hid hq
  have hst : ∀ Z, Below w.heap.size w Z → Calls Try.prog 19 #[.agg #[.slice A n c, .int .i64 q.need, .int .i64 q.gap, .int .i64 q.doubt, .int .i64 q.joins, .int .i64 q.least], .int .i64 x2] Z fun e Z' => e = .returned (.tuple #[.int .i64 (stR n ls q x2).1, .int .i64 (stR n ls q x2).2]) ∧ Below Z.heap.size Z Z' := fun Z hZ =>
    strong_c A n c q x2 ls Z (by omega) HQ.out (HLI.out.later hZ)
  have hst' : ∀ Z, Below w.heap.size w Z → Calls Try.prog 19 #[.agg #[.slice A n c, .int .i64 q.need, .int .i64 q.gap, .int .i64 q.doubt, .int .i64 q.joins, .int .i64 q.least], .int .i64 (x2 + 1)] Z fun e Z' => e = .returned (.tuple #[.int .i64 (stR n ls q (x2 + 1)).1, .int .i64 (stR n ls q (x2 + 1)).2]) ∧ Below Z.heap.size Z Z' := fun Z hZ =>
    strong_c A n c q (x2 + 1) ls Z (by omega) HQ.out (HLI.out.later hZ)
  have hfw : ∀ (X : World) (g : Nat) (A1 : Option Addr) (k1 : Nat) (v : Int) (base : Nat) Z, OMid X g n A1 k1 q v ls base Z → Calls Try.prog 17 #[.agg #[.slice A1 n k1, .int .i64 v, .int .i64 q.gap, .int .i64 q.doubt, .int .i64 q.joins, .int .i64 q.least]] Z
      fun e Z' => e = .returned (.tuple #[.int .i64 ((plC n ls (q.at_ v)).length : Nat), .int .i64 (erS n ls (q.at_ v))]) ∧ Below Z.heap.size Z Z' := fun X g A1 k1 v base Z hZ =>
    fewest_c A1 n k1 (q.at_ v) ls Z (by omega) HQ.out (sps_iff.2 (sl_of_own encS_len hZ.own HLI.out.1))
  have hk0 := isKnown_c 0
  have hk3 := isKnown_c 3
  rw [show isKn 0 = true from rfl] at hk0
  rw [show isKn 3 = true from rfl] at hk3
  replace hk0 := Lib.hid hk0
  replace hk3 := Lib.hid hk3
  have HFW := Lib.hid hfw
  have HV := strong_vals (cuts := x2) (more := more) HCK.out HLI.out.1 ⟨hc0, hc1⟩ (by omega)
  clear hfw er ea HL hq hn hck
  rcases HV with ⟨z, hv⟩ | ⟨b, z, hb, ⟨hv1, hv2⟩, hv3, hv4⟩
  · rw [z] at hst
    simp only at hst
    replace hst := Lib.hid hst
    obtain ⟨L, hL⟩ : ∃ L, (plC n ls (q.at_ 0)).length = L := ⟨_, rfl⟩
    obtain ⟨E, hE⟩ : ∃ E, erS n ls (q.at_ 0) = E := ⟨_, rfl⟩
    rw [hL, hE] at hv
    have HLE := Lib.hid (And.intro hL hE)
    replace hv := Lib.hid hv
    clear z hst' hL hE
    go_enter Try.func5, Try.ntmps5
    go_wp2_with fail
    obtain ⟨X, hX⟩ : ∃ X, (w.alloc (.cells #[.slice A n c, .int .i64 q.need, .int .i64 q.gap, .int .i64 q.doubt, .int .i64 q.joins, .int .i64 q.least] 24)).alloc (.cells #[.int .i64 x0, .int .i64 x1, .int .i64 x2] 28) = X := ⟨_, rfl⟩
    rw [hX]
    have BX : Below w.heap.size w X := (al2 hX).1
    have zX : X.heap.size = w.heap.size + 2 := (al2 hX).2
    have P0 := Lib.hid (al2_0 hX).2.1
    have P1 := Lib.hid (al2_1 hX).2.1
    have zw : w.heap.size ≤ X.heap.size := by omega
    have n0 : w.heap.size < X.heap.size := by omega
    have n1 : w.heap.size + 1 < X.heap.size := by omega
    clear hX
    refine (hrd.out X BX).mono ?_
    rintro e w1 ⟨rfl, hb1⟩
    have b1 := hb1
    clear hb1
    have c1_0 := fun j => (b1.cell (p := ⟨w.heap.size, j, none⟩) n0).trans (P0.out j)
    have c1_1 := fun j => (b1.cell (p := ⟨w.heap.size + 1, j, none⟩) n1).trans (P1.out j)
    have z1 := b1.size
    go_wp2_with fail
    refine (hak.out _).mono ?_
    rintro e w2 ⟨rfl, hb2⟩
    have b2 : Below X.heap.size X w2 := b1.trans (hb2.mono z1)
    clear hb2 c1_0 c1_1 b1
    have c2_0 := fun j => (b2.cell (p := ⟨w.heap.size, j, none⟩) n0).trans (P0.out j)
    have c2_1 := fun j => (b2.cell (p := ⟨w.heap.size + 1, j, none⟩) n1).trans (P1.out j)
    have z2 := b2.size
    go_wp2_with fail
    refine (hst.out _ (BX.trans (b2.mono zw))).mono ?_
    rintro e w3 ⟨rfl, hb3⟩
    have b3 : Below X.heap.size X w3 := b2.trans (hb3.mono z2)
    clear hb3 c2_0 c2_1 b2
    have c3_0 := fun j => (b3.cell (p := ⟨w.heap.size, j, none⟩) n0).trans (P0.out j)
    have c3_1 := fun j => (b3.cell (p := ⟨w.heap.size + 1, j, none⟩) n1).trans (P1.out j)
    have z3 := b3.size
    go_wp2_with (go_at_call 20; refine (hk3.out _).mono ?_; rintro e w' ⟨rfl, rfl⟩)
    refine (Copy_c A n c q ls w3 (by omega) (HLI.out.later (BX.trans (b3.mono zw)))).mono ?_
    rintro e w4 ⟨A1, k1, rfl, hO, hb4⟩
    have HO := Lib.hid hO
    have b4 : Below X.heap.size X w4 := b3.trans (hb4.mono z3)
    have zO := hb4.size
    clear hb4 hO c3_0 c3_1
    have c4_0 := fun j => (b4.cell (p := ⟨w.heap.size, j, none⟩) n0).trans (P0.out j)
    have c4_1 := fun j => (b4.cell (p := ⟨w.heap.size + 1, j, none⟩) n1).trans (P1.out j)
    have z4 := b4.size
    go_upto_region 7 with (fail)
    go_name_world Y hY
    have M5 := Lib.hid (show OMid X w4.heap.size n A1 k1 q q.need ls w3.heap.size Y from ⟨b4.trans ((al1 hY).1.mono z4), by rw [← hY]; exact Blk.new _ _ _, own_below HO.out (al1 hY).1, fun k hk e => by have := (HO.out.lt k hk).2; omega, z4⟩)
    clear hY c4_0 c4_1
    have b5 := M5.out.bel
    have c5_0 := fun j => (b5.cell (p := ⟨w.heap.size, j, none⟩) n0).trans (P0.out j)
    have c5_1 := fun j => (b5.cell (p := ⟨w.heap.size + 1, j, none⟩) n1).trans (P1.out j)
    have z5 := b5.size
    have o5 := M5.out.blk.cell
    have f5 := M5.out.blk.frozen
    have l5 := M5.out.blk.lt
    go_upto_region 8 with (fail)
    go_name_world V hV
    have M6 := Lib.hid (show OMid X w4.heap.size n A1 k1 q 0 ls w3.heap.size V from hV ▸ M5.out.set 0)
    clear hV c5_0 c5_1 o5 f5 M5 l5
    have b6 := M6.out.bel
    have c6_0 := fun j => (b6.cell (p := ⟨w.heap.size, j, none⟩) n0).trans (P0.out j)
    have c6_1 := fun j => (b6.cell (p := ⟨w.heap.size + 1, j, none⟩) n1).trans (P1.out j)
    have z6 := b6.size
    have o6 := M6.out.blk.cell
    have f6 := M6.out.blk.frozen
    have l6 := M6.out.blk.lt
    go_wp2_with fail
    refine (HFW.out _ _ _ _ _ _ _ M6.out).mono ?_
    rw [HLE.out.1, HLE.out.2]
    rintro e w7 ⟨rfl, hb7⟩
    have M7 := Lib.hid (M6.out.later hb7)
    clear hb7 c6_0 c6_1 b6 o6 f6 l6 z6 M6
    have b7 := M7.out.bel
    have c7_0 := fun j => (b7.cell (p := ⟨w.heap.size, j, none⟩) n0).trans (P0.out j)
    have c7_1 := fun j => (b7.cell (p := ⟨w.heap.size + 1, j, none⟩) n1).trans (P1.out j)
    have z7 := b7.size
    have o7 := M7.out.blk.cell
    have f7 := M7.out.blk.frozen
    have l7 := M7.out.blk.lt
    rcases hv.out with rfl | ⟨rfl, hlt⟩
    all_goals
      go_wp2_with fail
      refine (hwk.out _).mono ?_
      rintro e w99 ⟨rfl, hb99⟩
      go_wp2
      go_ret
      exact ⟨rfl, BX.trans (Below.mono (b7.trans (hb99.mono z7)) zw)⟩
  · rw [z] at hst
    simp only at hst
    replace hst := Lib.hid hst
    obtain ⟨L, hL⟩ : ∃ L, (plC n ls (q.at_ b)).length = L := ⟨_, rfl⟩
    rw [hL] at hv2
    have HLE := Lib.hid (And.intro hL hv1)
    replace hv3 := Lib.hid hv3
    replace hv4 := Lib.hid hv4
    have d1 : decide (b < 0) = false := by simp; omega
    have d2 : decide (9999 < b) = false := by simp; omega
    have d3 : decide (x2 < (L : Int)) = false := by simp; omega
    clear z hL hv1
    go_enter Try.func5, Try.ntmps5
    go_wp2_with fail
    obtain ⟨X, hX⟩ : ∃ X, (w.alloc (.cells #[.slice A n c, .int .i64 q.need, .int .i64 q.gap, .int .i64 q.doubt, .int .i64 q.joins, .int .i64 q.least] 24)).alloc (.cells #[.int .i64 x0, .int .i64 x1, .int .i64 x2] 28) = X := ⟨_, rfl⟩
    rw [hX]
    have BX : Below w.heap.size w X := (al2 hX).1
    have zX : X.heap.size = w.heap.size + 2 := (al2 hX).2
    have P0 := Lib.hid (al2_0 hX).2.1
    have P1 := Lib.hid (al2_1 hX).2.1
    have zw : w.heap.size ≤ X.heap.size := by omega
    have n0 : w.heap.size < X.heap.size := by omega
    have n1 : w.heap.size + 1 < X.heap.size := by omega
    clear hX
    refine (hrd.out X BX).mono ?_
    rintro e w1 ⟨rfl, hb1⟩
    have b1 := hb1
    clear hb1
    have c1_0 := fun j => (b1.cell (p := ⟨w.heap.size, j, none⟩) n0).trans (P0.out j)
    have c1_1 := fun j => (b1.cell (p := ⟨w.heap.size + 1, j, none⟩) n1).trans (P1.out j)
    have z1 := b1.size
    go_wp2_with fail
    refine (hak.out _).mono ?_
    rintro e w2 ⟨rfl, hb2⟩
    have b2 : Below X.heap.size X w2 := b1.trans (hb2.mono z1)
    clear hb2 c1_0 c1_1 b1
    have c2_0 := fun j => (b2.cell (p := ⟨w.heap.size, j, none⟩) n0).trans (P0.out j)
    have c2_1 := fun j => (b2.cell (p := ⟨w.heap.size + 1, j, none⟩) n1).trans (P1.out j)
    have z2 := b2.size
    go_wp2_with fail
    refine (hst.out _ (BX.trans (b2.mono zw))).mono ?_
    rintro e w3 ⟨rfl, hb3⟩
    have b3 : Below X.heap.size X w3 := b2.trans (hb3.mono z2)
    clear hb3 c2_0 c2_1 b2
    have c3_0 := fun j => (b3.cell (p := ⟨w.heap.size, j, none⟩) n0).trans (P0.out j)
    have c3_1 := fun j => (b3.cell (p := ⟨w.heap.size + 1, j, none⟩) n1).trans (P1.out j)
    have z3 := b3.size
    go_wp2_with (go_at_call 20; refine (hk0.out _).mono ?_; rintro e w' ⟨rfl, rfl⟩)
    refine (Copy_c A n c q ls w3 (by omega) (HLI.out.later (BX.trans (b3.mono zw)))).mono ?_
    rintro e w4 ⟨A1, k1, rfl, hO, hb4⟩
    have HO := Lib.hid hO
    have b4 : Below X.heap.size X w4 := b3.trans (hb4.mono z3)
    have zO := hb4.size
    clear hb4 hO c3_0 c3_1
    have c4_0 := fun j => (b4.cell (p := ⟨w.heap.size, j, none⟩) n0).trans (P0.out j)
    have c4_1 := fun j => (b4.cell (p := ⟨w.heap.size + 1, j, none⟩) n1).trans (P1.out j)
    have z4 := b4.size
    go_upto_region 7 with (fail)
    go_name_world Y hY
    have M5 := Lib.hid (show OMid X w4.heap.size n A1 k1 q q.need ls w3.heap.size Y from ⟨b4.trans ((al1 hY).1.mono z4), by rw [← hY]; exact Blk.new _ _ _, own_below HO.out (al1 hY).1, fun k hk e => by have := (HO.out.lt k hk).2; omega, z4⟩)
    clear hY c4_0 c4_1
    have b5 := M5.out.bel
    have c5_0 := fun j => (b5.cell (p := ⟨w.heap.size, j, none⟩) n0).trans (P0.out j)
    have c5_1 := fun j => (b5.cell (p := ⟨w.heap.size + 1, j, none⟩) n1).trans (P1.out j)
    have z5 := b5.size
    have o5 := M5.out.blk.cell
    have f5 := M5.out.blk.frozen
    have l5 := M5.out.blk.lt
    go_upto_region 8 with (fail)
    go_name_world V hV
    have M6 := Lib.hid (show OMid X w4.heap.size n A1 k1 q 0 ls w3.heap.size V from hV ▸ M5.out.set 0)
    clear hV c5_0 c5_1 o5 f5 M5 l5
    have b6 := M6.out.bel
    have c6_0 := fun j => (b6.cell (p := ⟨w.heap.size, j, none⟩) n0).trans (P0.out j)
    have c6_1 := fun j => (b6.cell (p := ⟨w.heap.size + 1, j, none⟩) n1).trans (P1.out j)
    have z6 := b6.size
    have o6 := M6.out.blk.cell
    have f6 := M6.out.blk.frozen
    have l6 := M6.out.blk.lt
    go_upto_region 14 with (fail)
    go_name_world V2 hV
    have M7 := Lib.hid (show OMid X w4.heap.size n A1 k1 q b ls w3.heap.size V2 from hV ▸ M6.out.set b)
    clear hV c6_0 c6_1 o6 f6 M6 l6
    have b7 := M7.out.bel
    have c7_0 := fun j => (b7.cell (p := ⟨w.heap.size, j, none⟩) n0).trans (P0.out j)
    have c7_1 := fun j => (b7.cell (p := ⟨w.heap.size + 1, j, none⟩) n1).trans (P1.out j)
    have z7 := b7.size
    have o7 := M7.out.blk.cell
    have f7 := M7.out.blk.frozen
    have l7 := M7.out.blk.lt
    go_wp2_with fail
    refine (HFW.out _ _ _ _ _ _ _ M7.out).mono ?_
    rw [HLE.out.1, HLE.out.2]
    rintro e w8 ⟨rfl, hb8⟩
    have M8 := Lib.hid (M7.out.later hb8)
    clear hb8 c7_0 c7_1 b7 o7 f7 l7 z7 M7
    have b8 := M8.out.bel
    have c8_0 := fun j => (b8.cell (p := ⟨w.heap.size, j, none⟩) n0).trans (P0.out j)
    have c8_1 := fun j => (b8.cell (p := ⟨w.heap.size + 1, j, none⟩) n1).trans (P1.out j)
    have z8 := b8.size
    have o8 := M8.out.blk.cell
    have f8 := M8.out.blk.frozen
    have l8 := M8.out.blk.lt
    go_upto_region 18 with (fail)
    go_name_world V3 hV
    have M9 := Lib.hid (show OMid X w4.heap.size n A1 k1 q (b + more) ls w3.heap.size V3 from hV ▸ M8.out.set (b + more))
    clear hV c8_0 c8_1 o8 f8 M8 l8
    have b9 := M9.out.bel
    have c9_0 := fun j => (b9.cell (p := ⟨w.heap.size, j, none⟩) n0).trans (P0.out j)
    have c9_1 := fun j => (b9.cell (p := ⟨w.heap.size + 1, j, none⟩) n1).trans (P1.out j)
    have z9 := b9.size
    have o9 := M9.out.blk.cell
    have f9 := M9.out.blk.frozen
    have l9 := M9.out.blk.lt
    by_cases hle : b + more ≤ 9999
    · obtain ⟨L2, hL2⟩ : ∃ L, (plC n ls (q.at_ (b + more))).length = L := ⟨_, rfl⟩
      obtain ⟨E2, hE2⟩ : ∃ E, erS n ls (q.at_ (b + more)) = E := ⟨_, rfl⟩
      have hv5 := hv3.out hle
      rw [hL2, hE2] at hv5
      have HLF := Lib.hid (And.intro hL2 hE2)
      replace hv5 := Lib.hid hv5
      clear hL2 hE2
      go_wp2_with fail
      refine (HFW.out _ _ _ _ _ _ _ M9.out).mono ?_
      rw [HLF.out.1, HLF.out.2]
      rintro e w10 ⟨rfl, hb10⟩
      have M10 := Lib.hid (M9.out.later hb10)
      clear hb10 c9_0 c9_1 b9 o9 f9 l9 z9 M9
      have b10 := M10.out.bel
      have c10_0 := fun j => (b10.cell (p := ⟨w.heap.size, j, none⟩) n0).trans (P0.out j)
      have c10_1 := fun j => (b10.cell (p := ⟨w.heap.size + 1, j, none⟩) n1).trans (P1.out j)
      have z10 := b10.size
      have o10 := M10.out.blk.cell
      have f10 := M10.out.blk.frozen
      have l10 := M10.out.blk.lt
      rcases hv5.out with rfl | ⟨rfl, hlt⟩
      all_goals
        by_cases h12 : x2 = 12
        · have hB : (x2 == 12) = true := by simpa using h12
          clear h12
          go_wp2_with (first | (go_at_call 20; first | (with_reducible refine (hk0.out _).mono ?_; rintro e w' ⟨rfl, rfl⟩) | (with_reducible refine (hk3.out _).mono ?_; rintro e w' ⟨rfl, rfl⟩)))
          refine (hwk.out _).mono ?_
          rintro e w99 ⟨rfl, hb99⟩
          go_wp2
          go_ret
          exact ⟨rfl, BX.trans (Below.mono (b10.trans (hb99.mono z10)) zw)⟩
        · have hB : (x2 == 12) = false := by simpa using h12
          obtain ⟨b', z', hbb⟩ := hv4.out (by omega)
          rw [z'] at hst'
          simp only at hst'
          replace hst' := Lib.hid hst'
          clear h12 z'
          go_wp2_with (first | (go_at_call 20; first | (with_reducible refine (hk0.out _).mono ?_; rintro e w' ⟨rfl, rfl⟩) | (with_reducible refine (hk3.out _).mono ?_; rintro e w' ⟨rfl, rfl⟩)))
          refine (hst'.out _ (BX.trans (b10.mono zw))).mono ?_
          rintro e w11 ⟨rfl, hb11⟩
          have b11 : Below X.heap.size X w11 := b10.trans (hb11.mono z10)
          clear hb11 c10_0 c10_1 b10
          have c11_0 := fun j => (b11.cell (p := ⟨w.heap.size, j, none⟩) n0).trans (P0.out j)
          have c11_1 := fun j => (b11.cell (p := ⟨w.heap.size + 1, j, none⟩) n1).trans (P1.out j)
          have z11 := b11.size
          go_wp2_with fail
          refine (hwk.out _).mono ?_
          rintro e w99 ⟨rfl, hb99⟩
          go_wp2
          go_ret
          exact ⟨rfl, BX.trans (Below.mono (b11.trans (hb99.mono z11)) zw)⟩
    · by_cases h12 : x2 = 12
      · have hB : (x2 == 12) = true := by simpa using h12
        clear h12
        go_wp2_with fail
        refine (hwk.out _).mono ?_
        rintro e w99 ⟨rfl, hb99⟩
        go_wp2
        go_ret
        exact ⟨rfl, BX.trans (Below.mono (b9.trans (hb99.mono z9)) zw)⟩
      · have hB : (x2 == 12) = false := by simpa using h12
        obtain ⟨b', z', hbb⟩ := hv4.out (by omega)
        rw [z'] at hst'
        simp only at hst'
        replace hst' := Lib.hid hst'
        clear h12 z'
        go_wp2_with fail
        refine (hst'.out _ (BX.trans (b9.mono zw))).mono ?_
        rintro e w10 ⟨rfl, hb10⟩
        have b10 : Below X.heap.size X w10 := b9.trans (hb10.mono z9)
        clear hb10 c9_0 c9_1 b9
        have c10_0 := fun j => (b10.cell (p := ⟨w.heap.size, j, none⟩) n0).trans (P0.out j)
        have c10_1 := fun j => (b10.cell (p := ⟨w.heap.size + 1, j, none⟩) n1).trans (P1.out j)
        have z10 := b10.size
        go_wp2_with fail
        refine (hwk.out _).mono ?_
        rintro e w99 ⟨rfl, hb99⟩
        go_wp2
        go_ret
        exact ⟨rfl, BX.trans (Below.mono (b10.trans (hb99.mono z10)) zw)⟩

end Go.Proofs.Ythjjakhmbgnnnaa
