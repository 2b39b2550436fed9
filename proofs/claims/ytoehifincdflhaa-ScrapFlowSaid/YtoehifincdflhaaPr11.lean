/- Proof of scrap (layer 11). -/
import Derived.Test.YtoehifincdflhaaPv11
namespace Go.Proofs.Ytoehifincdflhaa
open Go.RowKit
open Go.Sort (grow)
set_option linter.unusedVariables false

/-- the first set of places that proves -/
def prfO (np nl : Nat) (pl : List Sp) (ls : List Ln) : Option Nat := (List.range (2 ^ np)).find? fun s => s != 0 && prvB np nl pl ls s
/-- the members of a set below k -/
def memK (s k : Nat) : List Nat := (List.range k).filter s.testBit
theorem memK_succ {s k : Nat} (h : s.testBit k = true) : memK s (k + 1) = memK s k ++ [k] := by simp [memK, List.range_succ, List.filter_append, h]
theorem memK_succ_no {s k : Nat} (h : s.testBit k = false) : memK s (k + 1) = memK s k := by simp [memK, List.range_succ, List.filter_append, h]
theorem memK_len (s k : Nat) : (memK s k).length ≤ k := by
  have := List.length_filter_le s.testBit (List.range k)
  simpa [memK] using this
theorem prfO_none {np nl : Nat} {pl : List Sp} {ls : List Ln} (h : ∀ s, s < 2 ^ np → (s != 0 && prvB np nl pl ls s) = false) : prfO np nl pl ls = none := by
  unfold prfO
  rw [List.find?_eq_none]
  intro s hs
  simp only [h s (by simpa using hs)]
  simp
theorem prfO_some {np nl s : Nat} {pl : List Sp} {ls : List Ln} (hs : s < 2 ^ np) (h : (s != 0 && prvB np nl pl ls s) = true) (h0 : ∀ t, t < s → (t != 0 && prvB np nl pl ls t) = false) : prfO np nl pl ls = some s := by
  have h1 := idxN_some (n := 2 ^ np) (p := fun s => s != 0 && prvB np nl pl ls s) hs h h0
  unfold idxN at h1
  unfold prfO
  cases e : (List.range (2 ^ np)).find? (fun s => s != 0 && prvB np nl pl ls s) with
  | none => rw [e] at h1; simp at h1
  | some j => rw [e] at h1; simp at h1; simp; omega

/-- what Proof hands back -/
def PrfRet (np nl : Nat) (pl : List Sp) (ls : List Ln) (wrg : Int) (e : Ending) (w' : World) : Prop :=
  bif ckBk np nl pl ls wrg then (match prfO np nl pl ls with
    | none => e = .returned (.tuple #[.slice none 0 0, .int .i64 3])
    | some s => ∃ A c, e = .returned (.tuple #[.slice A (memK s np).length c, .int .i64 0]) ∧ IntsAt w' A (memK s np).length ((memK s np).map fun k : Nat => (k : Int)))
  else e = .returned (.tuple #[.slice none 0 0, .int .i64 110])

set_option maxRecDepth 100000 in
set_option maxHeartbeats 1600000 in
theorem Proof_c (Ap Al : Option Addr) (np cp nl cl : Nat) (wrg : Int) (pl : List Sp) (ls : List Ln) (w : World) (hp : np ≤ 40) (hl : nl ≤ 40) (HP : SpsAt w Ap np pl) (HL : LnsAt w Al nl ls) :
    Calls Try.prog 42 #[.agg #[.slice Ap np cp, .slice Al nl cl, .int .i64 wrg]] w
      fun e w' => PrfRet np nl pl ls wrg e w' ∧ Below w.heap.size w w' := by
  have HPI := Lib.hid HP
  have HLI := Lib.hid HL
  cases hck : ckBk np nl pl ls wrg
  · have e0 : erB (ckBk np nl pl ls wrg) = 110 := by rw [hck]; rfl
    have hr := Lib.hid (show ∀ e w', PrfRet np nl pl ls wrg e w' = (e = .returned (.tuple #[.slice none 0 0, .int .i64 110])) by intro e w'; simp [PrfRet, hck])
    clear HP HL hck
    go_enter Try.func42, Try.ntmps42
    go_wp2_with (go_at_call 37; refine (check_c Ap Al np cp nl cl wrg pl ls _ hp hl (HPI.out.later (by (repeat first | with_reducible assumption | with_reducible exact Below.refl _ _ | refine below_drewN ?_ _ | refine Below.drew ?_ | refine Below.alloc ?_ (by first | omega | (with_reducible exact Below.size (by assumption)) | (simp; done) | (simp; omega)) _ | refine Below.setCell ?_ (by first | omega | (with_reducible exact Below.size (by assumption)) | (simp; done) | (simp; omega)) _ | refine below_step (by assumption) (by first | omega | (with_reducible exact Below.size (by assumption)) | (simp; done) | (simp; omega)) ?_))) (HLI.out.later (by (repeat first | with_reducible assumption | with_reducible exact Below.refl _ _ | refine below_drewN ?_ _ | refine Below.drew ?_ | refine Below.alloc ?_ (by first | omega | (with_reducible exact Below.size (by assumption)) | (simp; done) | (simp; omega)) _ | refine Below.setCell ?_ (by first | omega | (with_reducible exact Below.size (by assumption)) | (simp; done) | (simp; omega)) _ | refine below_step (by assumption) (by first | omega | (with_reducible exact Below.size (by assumption)) | (simp; done) | (simp; omega)) ?_)))).mono ?_; rw [e0]; (rintro e w1 ⟨rfl, hb1⟩; obtain ⟨hc1, hf1⟩ := bcell hb1; have zs1 := hb1.size; (try simp at zs1); have n1_0 : w.heap.size < w1.heap.size := (by omega)))
    exact bodyPost_ret (v := .tuple #[.slice none 0 0, .int .i64 110]) (by simp [results, Try.results42, go_sem]) rfl ⟨by rw [hr.out], by (repeat first | with_reducible assumption | with_reducible exact Below.refl _ _ | (with_reducible refine Below.alloc ?_ ?side _; case side => (first | omega | (with_reducible exact Below.size (by assumption)) | (simp; done) | (simp; omega))) | (with_reducible refine Below.setCell ?_ ?side _; case side => (first | omega | (with_reducible exact Below.size (by assumption)) | (simp; done) | (simp; omega))) | with_reducible refine Below.drew ?_ | with_reducible refine below_drewN ?_ _ | (with_reducible refine below_step (by assumption) ?side ?_; case side => (first | omega | (with_reducible exact Below.size (by assumption)) | (simp; done) | (simp; omega))))⟩
  have e0 : erB (ckBk np nl pl ls wrg) = 0 := by rw [hck]; rfl
  obtain ⟨hok, -, -⟩ := okBk_of HP.1 HL.1 hck
  have hr := Lib.hid (show ∀ e w', PrfRet np nl pl ls wrg e w' = (match prfO np nl pl ls with
    | none => e = .returned (.tuple #[.slice none 0 0, .int .i64 3])
    | some s => ∃ A c, e = .returned (.tuple #[.slice A (memK s np).length c, .int .i64 0]) ∧ IntsAt w' A (memK s np).length ((memK s np).map fun k : Nat => (k : Int))) by intro e w'; simp [PrfRet, hck])
  have HK := Lib.hid hok
  have hp5 := hok.hp
  have hl8 := hok.hl
  obtain ⟨M, hM2⟩ : ∃ M, 2 ^ np = M := ⟨_, rfl⟩
  have hMle : M ≤ 32 := by
    have : 2 ^ np ≤ 2 ^ 5 := Nat.pow_le_pow_right (by omega) hp5
    omega
  have hsh : IntKind.u64.wrap ((2 : Int) ^ np) = (M : Int) := by
    have e : (2 : Int) ^ np = (M : Int) := by rw [← hM2]; simp
    rw [e, IntKind.wrap_u64]; omega
  have HM2 := Lib.hid hM2
  clear HP HL hck hok hM2
  go_enter Try.func42, Try.ntmps42
  go_wp2_with (go_at_call 37; refine (check_c Ap Al np cp nl cl wrg pl ls _ hp hl (HPI.out.later (by (repeat first | with_reducible assumption | with_reducible exact Below.refl _ _ | refine below_drewN ?_ _ | refine Below.drew ?_ | refine Below.alloc ?_ (by first | omega | (with_reducible exact Below.size (by assumption)) | (simp; done) | (simp; omega)) _ | refine Below.setCell ?_ (by first | omega | (with_reducible exact Below.size (by assumption)) | (simp; done) | (simp; omega)) _ | refine below_step (by assumption) (by first | omega | (with_reducible exact Below.size (by assumption)) | (simp; done) | (simp; omega)) ?_))) (HLI.out.later (by (repeat first | with_reducible assumption | with_reducible exact Below.refl _ _ | refine below_drewN ?_ _ | refine Below.drew ?_ | refine Below.alloc ?_ (by first | omega | (with_reducible exact Below.size (by assumption)) | (simp; done) | (simp; omega)) _ | refine Below.setCell ?_ (by first | omega | (with_reducible exact Below.size (by assumption)) | (simp; done) | (simp; omega)) _ | refine below_step (by assumption) (by first | omega | (with_reducible exact Below.size (by assumption)) | (simp; done) | (simp; omega)) ?_)))).mono ?_; rw [e0]; (rintro e w1 ⟨rfl, hb1⟩; obtain ⟨hc1, hf1⟩ := bcell hb1; have zs1 := hb1.size; (try simp at zs1); have n1_0 : w.heap.size < w1.heap.size := (by omega)))
  have d0 := fun i => (hc1 w.heap.size i (by first | omega | (simp; done) | (simp; omega))).trans ((al1_0 rfl).2.1 i)
  have hbw1 : Below w.heap.size w w1 := by (repeat first | with_reducible assumption | with_reducible exact Below.refl _ _ | (with_reducible refine Below.alloc ?_ ?side _; case side => (first | omega | (with_reducible exact Below.size (by assumption)) | (simp; done) | (simp; omega))) | (with_reducible refine Below.setCell ?_ ?side _; case side => (first | omega | (with_reducible exact Below.size (by assumption)) | (simp; done) | (simp; omega))) | with_reducible refine Below.drew ?_ | with_reducible refine below_drewN ?_ _ | (with_reducible refine below_step (by assumption) ?side ?_; case side => (first | omega | (with_reducible exact Below.size (by assumption)) | (simp; done) | (simp; omega))))
  have z1 := hbw1.size
  clear hc1 hf1 hb1 e0
  go_wp2_with fail
  go_loopw [17] (fun i (wr : World) => ∃ s : Nat, s ≤ M ∧ i = .int .u64 s ∧ Hid (∀ t, t < s → (t != 0 && prvB np nl pl ls t) = false) ∧ Below w1.heap.size w1 wr) (fun i _ => M - (intOf i).toNat)
  case atStart => exact ⟨0, by omega, rfl, fun j hj => absurd hj (by omega), Below.refl _ _⟩
  case round =>
    obtain ⟨s, hs, rfl, H, hb⟩ := hrel
    obtain ⟨hc, hf⟩ := bcell hb
    have zb := hb.size
    have m0 := Nat.lt_of_lt_of_le n1_0 zb
    have hbw : Below w.heap.size w wr := hbw1.trans (hb.mono z1)
    by_cases hlt : s < M
    · have hltB : decide ((s : Int) < M) = true := by simp; omega
      by_cases hs0 : s = 0
      · subst hs0
        go_wp2
        go_roundw
        case rel => exact ⟨1, by omega, by go_num, fun t ht => by
          obtain rfl : t = 0 := by omega
          rfl, by (repeat first | with_reducible assumption | with_reducible exact Below.refl _ _ | (with_reducible refine Below.alloc ?_ ?side _; case side => (first | omega | (with_reducible exact Below.size (by assumption)) | (simp; done) | (simp; omega))) | (with_reducible refine Below.setCell ?_ ?side _; case side => (first | omega | (with_reducible exact Below.size (by assumption)) | (simp; done) | (simp; omega))) | with_reducible refine Below.drew ?_ | with_reducible refine below_drewN ?_ _ | (with_reducible refine below_step (by assumption) ?side ?_; case side => (first | omega | (with_reducible exact Below.size (by assumption)) | (simp; done) | (simp; omega))))⟩
        case measure => simp [intOf]; omega
      have hs0B : ((s : Int) == 0) = false := by simp; omega
      cases e1 : prvB np nl pl ls s
      · have HN := Lib.hid (show (s != 0 && prvB np nl pl ls s) = false by simp [e1])
        go_wp2_with (go_at_call 69; refine (proves_c Ap Al np cp nl cl s wrg pl ls _ (by omega) HK.out (HPI.out.later (by (repeat first | with_reducible assumption | with_reducible exact Below.refl _ _ | refine below_drewN ?_ _ | refine Below.drew ?_ | refine Below.alloc ?_ (by first | omega | (with_reducible exact Below.size (by assumption)) | (simp; done) | (simp; omega)) _ | refine Below.setCell ?_ (by first | omega | (with_reducible exact Below.size (by assumption)) | (simp; done) | (simp; omega)) _ | refine below_step (by assumption) (by first | omega | (with_reducible exact Below.size (by assumption)) | (simp; done) | (simp; omega)) ?_))) (HLI.out.later (by (repeat first | with_reducible assumption | with_reducible exact Below.refl _ _ | refine below_drewN ?_ _ | refine Below.drew ?_ | refine Below.alloc ?_ (by first | omega | (with_reducible exact Below.size (by assumption)) | (simp; done) | (simp; omega)) _ | refine Below.setCell ?_ (by first | omega | (with_reducible exact Below.size (by assumption)) | (simp; done) | (simp; omega)) _ | refine below_step (by assumption) (by first | omega | (with_reducible exact Below.size (by assumption)) | (simp; done) | (simp; omega)) ?_)))).mono ?_; rw [e1]; (rintro e w2 ⟨rfl, hb2⟩))
        go_roundw
        case rel => exact ⟨s + 1, by omega, by go_num, fun t ht => by
          rcases Nat.lt_succ_iff_lt_or_eq.1 ht with h | rfl
          · exact H.out t h
          · exact HN.out, by (repeat first | with_reducible assumption | with_reducible exact Below.refl _ _ | (with_reducible refine Below.alloc ?_ ?side _; case side => (first | omega | (with_reducible exact Below.size (by assumption)) | (simp; done) | (simp; omega))) | (with_reducible refine Below.setCell ?_ ?side _; case side => (first | omega | (with_reducible exact Below.size (by assumption)) | (simp; done) | (simp; omega))) | with_reducible refine Below.drew ?_ | with_reducible refine below_drewN ?_ _ | (with_reducible refine below_step (by assumption) ?side ?_; case side => (first | omega | (with_reducible exact Below.size (by assumption)) | (simp; done) | (simp; omega))))⟩
        case measure => simp [intOf]; omega
      · have HY := Lib.hid (prfO_some (np := np) (nl := nl) (pl := pl) (ls := ls) (s := s) (by rw [HM2.out]; exact hlt) (by simp [e1]; omega) H.out)
        go_wp2_with fail
        go_at_call 69
        refine (proves_c Ap Al np cp nl cl s wrg pl ls _ (by omega) HK.out (HPI.out.later (by (repeat first | with_reducible assumption | with_reducible exact Below.refl _ _ | refine below_drewN ?_ _ | refine Below.drew ?_ | refine Below.alloc ?_ (by first | omega | (with_reducible exact Below.size (by assumption)) | (simp; done) | (simp; omega)) _ | refine Below.setCell ?_ (by first | omega | (with_reducible exact Below.size (by assumption)) | (simp; done) | (simp; omega)) _ | refine below_step (by assumption) (by first | omega | (with_reducible exact Below.size (by assumption)) | (simp; done) | (simp; omega)) ?_))) (HLI.out.later (by (repeat first | with_reducible assumption | with_reducible exact Below.refl _ _ | refine below_drewN ?_ _ | refine Below.drew ?_ | refine Below.alloc ?_ (by first | omega | (with_reducible exact Below.size (by assumption)) | (simp; done) | (simp; omega)) _ | refine Below.setCell ?_ (by first | omega | (with_reducible exact Below.size (by assumption)) | (simp; done) | (simp; omega)) _ | refine below_step (by assumption) (by first | omega | (with_reducible exact Below.size (by assumption)) | (simp; done) | (simp; omega)) ?_)))).mono ?_
        rw [e1]
        rintro e w2 ⟨rfl, hb2⟩
        have z2 := hb2.size
        have d2 := fun i => (hb2.cell (p := ⟨w.heap.size, i, none⟩) m0).trans ((hc _ i n1_0).trans (d0 i))
        have hbw2 : Below w.heap.size w w2 := hbw.trans (hb2.mono hbw.size)
        have n2 : w.heap.size < w2.heap.size := by omega
        have zw2 := hbw2.size
        clear hc hf hb2 hb H
        go_wp2_with fail
        go_wp2_with fail
        have W_ := Lib.hid (World.ownsRow_nil w2 w2.heap.size 3 1)
        go_loopw [6, 31] (fun v i (ws : World) => ∃ k : Nat, k ≤ np ∧ i = .int .i64 k ∧ Hid (ws.ownsRow w2.heap.size 3 1 v (memK s k).length (((memK s k).map fun j : Nat => (j : Int)).flatMap encI)) ∧ Below w2.heap.size w2 ws) (fun _ i _ => np - (intOf i).toNat)
        case atStart => exact ⟨0, by omega, rfl, W_, Below.refl _ _⟩
        case round =>
          obtain ⟨k, hk, rfl, HO, hb⟩ := hrel
          obtain ⟨hc, hf⟩ := bcell hb
          have zb := hb.size
          have m2 := Nat.lt_of_lt_of_le n2 zb
          have hkb : hsB s (k : Int) = s.testBit k := by simp [hsB]
          have hle := memK_len s k
          by_cases hkn : k < np
          · have hknB : decide ((k : Int) < np) = true := by simp; omega
            cases e2 : s.testBit k
            · rw [e2] at hkb
              have HNo := Lib.hid (memK_succ_no e2)
              replace e2 := Lib.hid e2
              go_wp2_with (go_at_call 70; refine (hasB_c _ _ _ (by omega) (by omega)).mono ?_; rw [hkb]; rintro e w' ⟨rfl, rfl⟩)
              refine ⟨⟨k + 1, by omega, by simp, ?_, hb⟩, by simp [intOf]; omega⟩
              rw [HNo.out]; exact HO
            · rw [e2] at hkb
              have HYe := Lib.hid (memK_succ e2)
              replace e2 := Lib.hid e2
              go_wp2_with (first | (go_at_call 70; refine (hasB_c _ _ _ (by omega) (by omega)).mono ?_; rw [hkb]; rintro e w' ⟨rfl, rfl⟩) | (at_builtin; go_must (refine wpList_append_T _ (d := (0 : Int)) rfl (.tmp 37) (.tmp 39) _ rfl w2.heap.size _ 1 8 intE encI_len encI_one u6 u6.ownBlock (memK s k).length ((memK s k).map fun j : Nat => (j : Int)) rfl rfl ?_ _ 1 _ [(k : Int)] rfl ?_ ?_ ?_ ?_; (exact own_below HO.out (by (repeat first | with_reducible assumption | with_reducible exact Below.refl _ _ | (with_reducible refine Below.alloc ?_ ?side _; case side => (first | omega | (with_reducible exact Below.size (by assumption)) | (simp; done) | (simp; omega))) | (with_reducible refine Below.setCell ?_ ?side _; case side => (first | omega | (with_reducible exact Below.size (by assumption)) | (simp; done) | (simp; omega))) | with_reducible refine Below.drew ?_ | with_reducible refine below_drewN ?_ _ | (with_reducible refine below_step (by assumption) ?side ?_; case side => (first | omega | (with_reducible exact Below.size (by assumption)) | (simp; done) | (simp; omega)))))); (exact sl_new encI_len rfl rfl rfl); omega; (simp; omega); (intro v' w5 hown5 hg5 hat5; have hb5 : Below w2.heap.size w2 w5 := (Below.grown (by (repeat first | with_reducible assumption | with_reducible exact Below.refl _ _ | (with_reducible refine Below.alloc ?_ ?side _; case side => (first | omega | (with_reducible exact Below.size (by assumption)) | (simp; done) | (simp; omega))) | (with_reducible refine Below.setCell ?_ ?side _; case side => (first | omega | (with_reducible exact Below.size (by assumption)) | (simp; done) | (simp; omega))) | with_reducible refine Below.drew ?_ | with_reducible refine below_drewN ?_ _ | (with_reducible refine below_step (by assumption) ?side ?_; case side => (first | omega | (with_reducible exact Below.size (by assumption)) | (simp; done) | (simp; omega))))) hg5 (by simp; omega) (own_ge HO.out)); have hown6 : Hid (w5.ownsRow w2.heap.size 3 1 v' (memK s (k + 1)).length (((memK s (k + 1)).map fun j : Nat => (j : Int)).flatMap encI)) := (by rw [HYe.out, List.length_append, List.map_append]; exact hown5); clear hown5 hg5 hat5))))
              refine ⟨⟨k + 1, by omega, by simp, hown6, hb5⟩, by simp [intOf]; omega⟩
          · obtain rfl : np = k := by omega
            have hknB : decide (((np : Nat) : Int) < np) = false := by simp
            obtain ⟨A, c, rfl, -, hsl⟩ := SlAt.of_own (d := (0 : Int)) encI_len HO.out (by simp)
            have hsI := Lib.hid (ints_iff.2 hsl)
            clear hsl
            go_wp2
            refine bodyPost_ret (v := .tuple #[.slice A (memK s np).length c, .int .i64 0]) (by simp [results, Try.results42, go_sem]) rfl ⟨?_, hbw2.trans (hb.mono zw2)⟩
            rw [hr.out, HY.out]
            exact ⟨A, c, rfl, hsI.out⟩
    · obtain rfl : s = M := by omega
      have hltB : decide (((s : Nat) : Int) < s) = false := by simp
      have HN := Lib.hid (prfO_none (np := np) (nl := nl) (pl := pl) (ls := ls) (by rw [HM2.out]; exact H.out))
      go_wp2
      refine bodyPost_ret (v := .tuple #[.slice none 0 0, .int .i64 3]) (by simp [results, Try.results42, go_sem]) rfl ⟨?_, hbw⟩
      rw [hr.out, HN.out]

end Go.Proofs.Ytoehifincdflhaa
