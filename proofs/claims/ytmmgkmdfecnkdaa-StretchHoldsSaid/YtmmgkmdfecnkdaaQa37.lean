/- The specification's holds (layer 4), walked; The specification's stretch (layer 4), walked: the least and the greatest stretch of some truths; A slice of the specification's truths (layer 4) that the call itself makes; same of the statements (layer 4): two equal pulls. -/
import Derived.Test.YtmmgkmdfecnkdaaQa35
import Derived.Shelf.Abstract
import Derived.Laws.EntriesVeiled
import Derived.Handy
import Derived.Deep.DrawnRows
import Derived.Deep.DeepCutAuto
namespace Go.Proofs.Ytmmgkmdfecnkdaa
open Go.RowKit
open Go.Sort (grow)
set_option linter.unusedVariables false
set_option linter.unusedSimpArgs false

/-- in how many of the first k truths the cable became longer by at most a part -/
def hcK4 (ts : List (Int × Int × W4)) (pt : Int) (k : Nat) : Nat := ((List.range k).filter fun j => is4 pt (tuAt ts j).1 (tuAt ts j).2.1).length
theorem hcK4_le (ts : List (Int × Int × W4)) (pt : Int) (k : Nat) : hcK4 ts pt k ≤ k := Nat.le_trans (List.length_filter_le _ _) (by simp)
theorem hcK4_yes {ts : List (Int × Int × W4)} {pt : Int} {k : Nat} (h : is4 pt (tuAt ts k).1 (tuAt ts k).2.1 = true) : hcK4 ts pt (k + 1) = hcK4 ts pt k + 1 := by
  unfold hcK4
  rw [List.range_succ, List.filter_append]; simp [h]
theorem hcK4_no {ts : List (Int × Int × W4)} {pt : Int} {k : Nat} (h : is4 pt (tuAt ts k).1 (tuAt ts k).2.1 = false) : hcK4 ts pt (k + 1) = hcK4 ts pt k := by
  unfold hcK4
  rw [List.range_succ, List.filter_append]; simp [h]
def hdR4 (c n : Nat) : Int := bif c == n then 1 else bif c == 0 then 2 else 3
set_option maxRecDepth 100000 in
set_option maxHeartbeats 1600000 in
theorem refholds4_c (nr : Nat) (LA : Option Addr) (n lc : Nat) (hs : List Th4) (ts : List (Int × Int × W4)) (pt : Int) (w : World) (hp : 0 ≤ pt ∧ pt ≤ 1000) (HT : ThsAt nr w LA n hs ts) (hn : n ≤ 90000)
    (hok : ∀ k, k < n → (0 ≤ (tuAt ts k).1 ∧ (tuAt ts k).1 ≤ 99999) ∧ (0 ≤ (tuAt ts k).2.1 ∧ (tuAt ts k).2.1 ≤ 99999)) :
    Calls Try.prog 58 #[.slice LA n lc, .int .i64 pt] w fun e w' => e = .returned (.int .i64 (hdR4 (hcK4 ts pt n) n)) ∧ Below w.heap.size w w' := by
  have HTI := Lib.hid HT
  have HOK := Lib.hid hok
  obtain ⟨R, hR⟩ : ∃ R, hdR4 (hcK4 ts pt n) n = R := ⟨_, rfl⟩
  have HR := Lib.hid hR
  rw [hR]
  clear HT hok hR
  go_enter Try.func58, Try.ntmps58
  go_wp2_with fail
  go_loopw [5, 6] (fun c i (wr : World) => ∃ k : Nat, k ≤ n ∧ i = .int .i64 k ∧ c = .int .i64 (hcK4 ts pt k : Nat) ∧ Below w.heap.size w wr) (fun _ i _ => n - (intOf i).toNat)
  case atStart => exact ⟨0, by omega, by simp, rfl, Below.refl _ _⟩
  case round =>
    obtain ⟨k, hk, rfl, rfl, hb⟩ := hrel
    have hcl := hcK4_le ts pt k
    by_cases hlt : k < n
    · have hqB : decide ((k : Int) < n) = true := decide_eq_true (by omega)
      have vk : IntKind.i64.wrap ((k : Int) + 1) = (k : Int) + 1 := IntWalk.i64_in _ (by omega)
      obtain ⟨b, off, B, c, eA, hbl, d0, d1, d2, -⟩ := (HTI.out.later hb).get hlt
      cases eA
      have HH := Lib.hid (fun V => held4_c B nr c (tuAt ts k).1 (tuAt ts k).2.1 pt V (HOK.out k hlt).1 (HOK.out k hlt).2 hp)
      cases hf : is4 pt (tuAt ts k).1 (tuAt ts k).2.1
      · have HSN := Lib.hid (hcK4_no hf)
        rw [hf] at HH
        obtain ⟨x, hx⟩ : ∃ x, (tuAt ts k).1 = x := ⟨_, rfl⟩
        obtain ⟨y, hy⟩ : ∃ x, (tuAt ts k).2.1 = x := ⟨_, rfl⟩
        rw [hx] at d0 HH
        rw [hy] at d1 HH
        obtain ⟨m, hm⟩ : ∃ m, hcK4 ts pt k = m := ⟨_, rfl⟩
        rw [hm] at hcl ⊢
        have HMK := Lib.hid hm
        clear hf hx hy hm
        go_wp2_with (go_at_call 77; refine (HH.out _).mono ?_; (rintro e w5 ⟨rfl, hb5⟩); (have b5 := hb.trans (hb5.mono hb.size)); clear hb5 d0 d1 d2)
        go_roundw
        case rel => exact ⟨k + 1, by omega, by go_num, by rw [HSN.out, HMK.out], b5⟩
        case measure => simp [intOf]; omega
      · have HSN := Lib.hid (hcK4_yes hf)
        rw [hf] at HH
        obtain ⟨x, hx⟩ : ∃ x, (tuAt ts k).1 = x := ⟨_, rfl⟩
        obtain ⟨y, hy⟩ : ∃ x, (tuAt ts k).2.1 = x := ⟨_, rfl⟩
        rw [hx] at d0 HH
        rw [hy] at d1 HH
        obtain ⟨m, hm⟩ : ∃ m, hcK4 ts pt k = m := ⟨_, rfl⟩
        rw [hm] at hcl ⊢
        have HMK := Lib.hid hm
        have vm : IntKind.i64.wrap ((m : Int) + 1) = (m : Int) + 1 := IntWalk.i64_in _ (by omega)
        clear hf hx hy hm
        go_wp2_with (go_at_call 77; refine (HH.out _).mono ?_; (rintro e w5 ⟨rfl, hb5⟩); (have b5 := hb.trans (hb5.mono hb.size)); clear hb5 d0 d1 d2)
        go_roundw
        case rel => exact ⟨k + 1, by omega, by go_num, by rw [HSN.out, HMK.out]; go_num, b5⟩
        case measure => simp [intOf]; omega
    · obtain rfl : n = k := by omega
      have hqB : decide (((n : Nat) : Int) < n) = false := decide_eq_false (by omega)
      obtain ⟨m, hm⟩ : ∃ m, hcK4 ts pt n = m := ⟨_, rfl⟩
      have hr := HR.out
      rw [hm] at hcl hr ⊢
      clear hm
      unfold hdR4 at hr
      cases e1 : (m == n)
      · have g1 : ((m : Int) == (n : Int)) = false := by
          have h : m ≠ n := by simpa using e1
          simpa using fun h' : (m : Int) = n => h (by omega)
        rw [e1] at hr
        cases e2 : (m == 0)
        · have g2 : ((m : Int) == 0) = false := by
            have h : m ≠ 0 := by simpa using e2
            simpa using h
          rw [e2] at hr
          obtain rfl : 3 = R := hr
          clear e1 e2 HR
          go_wp2_with fail
          go_ret
          exact ⟨rfl, hb⟩
        · rw [e2] at hr
          obtain rfl : m = 0 := by simpa using e2
          obtain rfl : 2 = R := hr
          clear e1 e2 HR
          go_wp2_with fail
          go_ret
          exact ⟨rfl, hb⟩
      · rw [e1] at hr
        obtain rfl : m = n := by simpa using e1
        obtain rfl : 1 = R := hr
        clear e1 HR
        go_wp2_with fail
        go_ret
        exact ⟨rfl, hb⟩

end Go.Proofs.Ytmmgkmdfecnkdaa

namespace Go.Proofs.Ytmmgkmdfecnkdaa
open Go.RowKit
open Go.Sort (grow)
set_option linter.unusedVariables false
set_option linter.unusedSimpArgs false

attribute [local go_sem high] run_min24 run_max24
def stN4 (ts : List (Int × Int × W4)) (k : Nat) : Int := (tuAt ts k).2.1 - (tuAt ts k).1
def stK4 (ts : List (Int × Int × W4)) : Nat → Sp
  | 0 => ⟨0, 0⟩
  | k + 1 => ⟨min (if k = 0 then stN4 ts k else (stK4 ts k).lo) (stN4 ts k), max (if k = 0 then stN4 ts k else (stK4 ts k).hi) (stN4 ts k)⟩
set_option maxRecDepth 100000 in
set_option maxHeartbeats 1600000 in
theorem refstretch4_c (nr : Nat) (LA : Option Addr) (n lc : Nat) (hs : List Th4) (ts : List (Int × Int × W4)) (w : World) (HT : ThsAt nr w LA n hs ts) (hn : n ≤ 90000)
    (hok : ∀ k, k < n → (0 ≤ (tuAt ts k).1 ∧ (tuAt ts k).1 ≤ 99999) ∧ (0 ≤ (tuAt ts k).2.1 ∧ (tuAt ts k).2.1 ≤ 99999)) :
    Calls Try.prog 55 #[.slice LA n lc] w fun e w' => e = .returned (.agg #[.int .i64 (stK4 ts n).lo, .int .i64 (stK4 ts n).hi]) ∧ Below w.heap.size w w' := by
  have HTI := Lib.hid HT
  have HOK := Lib.hid hok
  clear HT hok
  go_enter Try.func55, Try.ntmps55
  go_upto_region 2 with (fail)
  go_name_world X hX
  have BX : Below w.heap.size w X := (al2 hX).1
  have HRX : Hid (Blk X w.heap.size 23 #[.int .i64 0, .int .i64 0]) := by
    rw [← hX]; exact Lib.hid ((Blk.new w _ _).alloc _)
  have HSX : Hid (Blk X (w.heap.size + 1) 23 #[.int .i64 (stK4 ts 0).lo, .int .i64 (stK4 ts 0).hi]) := by
    rw [← hX]
    have := Blk.new (w.alloc (.cells #[.int .i64 0, .int .i64 0] 23)) 23 #[.int .i64 0, .int .i64 0]
    rw [World.size_alloc] at this
    exact Lib.hid this
  clear hX
  go_wp2_with fail
  go_loopw [4] (fun i (wr : World) => ∃ k : Nat, k ≤ n ∧ i = .int .i64 k ∧ Hid (Blk wr w.heap.size 23 #[.int .i64 0, .int .i64 0]) ∧ Hid (Blk wr (w.heap.size + 1) 23 #[.int .i64 (stK4 ts k).lo, .int .i64 (stK4 ts k).hi]) ∧ Below w.heap.size w wr) (fun i _ => n - (intOf i).toNat)
  case atStart => exact ⟨0, by omega, by simp, HRX, HSX, BX⟩
  case round =>
    obtain ⟨k, hk, rfl, HR, HS, hb⟩ := hrel
    by_cases hlt : k < n
    · have hqB : decide ((k : Int) < n) = true := decide_eq_true (by omega)
      have vk : IntKind.i64.wrap ((k : Int) + 1) = (k : Int) + 1 := IntWalk.i64_in _ (by omega)
      obtain ⟨b, off, B, c, eA, hbl, d0, d1, -, -⟩ := (HTI.out.later hb).get hlt
      cases eA
      have hxy := HOK.out k hlt
      have hN : Hid (stN4 ts k = (tuAt ts k).2.1 - (tuAt ts k).1) := Lib.hid rfl
      obtain ⟨x, hx⟩ : ∃ x, (tuAt ts k).1 = x := ⟨_, rfl⟩
      obtain ⟨y, hy⟩ : ∃ x, (tuAt ts k).2.1 = x := ⟨_, rfl⟩
      rw [hx] at d0 hN hxy
      rw [hy] at d1 hN hxy
      have vn : IntKind.i64.wrap (y - x) = y - x := IntWalk.i64_in _ (by omega)
      clear hx hy
      go_upto_region 5 with (fail)
      have hcq := fun p : Regrown => (bcell (below_regrown wr p.d p.os)).1
      refine wp_region_quiet_below (by kernel_rfl) (by kernel_rfl) ?_
      repeat (go_big_quiet_step ((fail)))
      refine wpQuiet_nil ?_
      intro wq hq
      obtain ⟨pq, hq⟩ := hq
      have hbq : Below wr.heap.size wr wq := by rw [hq]; exact below_regrown _ _ _
      clear hq hcq pq
      obtain ⟨hcq, hfq⟩ := bcell hbq
      have zq := hbq.size
      have HRq := Lib.hid (HR.out.below hbq HR.out.lt)
      have HSq := Lib.hid (HS.out.below hbq HS.out.lt)
      have bq := hb.trans (hbq.mono hb.size)
      obtain ⟨v, hv⟩ : ∃ v, y - x = v := ⟨_, rfl⟩
      rw [hv] at hN ⊢
      have cS := HSq.out.cell
      have fS := HSq.out.frozen
      have lS := HSq.out.lt
      have hne : w.heap.size ≠ w.heap.size + 1 := by omega
      clear hv d0 d1 vn hxy
      by_cases h0 : k = 0
      · subst h0
        go_upto_region 4 with (fail)
        go_name_world V hV
        have hs : stK4 ts (0 + 1) = ⟨v, v⟩ := by
          show Sp.mk (min (stN4 ts 0) (stN4 ts 0)) (max (stN4 ts 0) (stN4 ts 0)) = _
          rw [hN.out, Int.min_self, Int.max_self]
        have HS1 := Lib.hid hs
        have HSV : Hid (Blk V (w.heap.size + 1) 23 #[.int .i64 v, .int .i64 v]) := Lib.hid (by rw [← hV]; have h := (((HSq.out.set_ 0 (.int .i64 v)).set_ 1 (.int .i64 v)).set_ 0 (.int .i64 v)).set_ 1 (.int .i64 v); simpa using h)
        have HRV : Hid (Blk V w.heap.size 23 #[.int .i64 0, .int .i64 0]) := Lib.hid (by rw [← hV]; exact (((HRq.out.far (p := ⟨w.heap.size + 1, 0, none⟩) hne _).far (p := ⟨w.heap.size + 1, 1, none⟩) hne _).far (p := ⟨w.heap.size + 1, 0, none⟩) hne _).far (p := ⟨w.heap.size + 1, 1, none⟩) hne _)
        have bV : Below w.heap.size w V := by rw [← hV]; exact (((bq.setCell (p := ⟨w.heap.size + 1, 0, none⟩) (Nat.le_succ _) _).setCell (p := ⟨w.heap.size + 1, 1, none⟩) (Nat.le_succ _) _).setCell (p := ⟨w.heap.size + 1, 0, none⟩) (Nat.le_succ _) _).setCell (p := ⟨w.heap.size + 1, 1, none⟩) (Nat.le_succ _) _
        clear hV cS fS lS hs
        go_wp2_with fail
        go_roundw
        case rel => exact ⟨0 + 1, by omega, by go_num, HRV, by rw [HS1.out]; exact HSV, bV⟩
        case measure => simp [intOf]; omega
      · have hB : ((k : Int) == 0) = false := by simpa using h0
        have hs : stK4 ts (k + 1) = ⟨min (stK4 ts k).lo v, max (stK4 ts k).hi v⟩ := by
          show Sp.mk _ _ = _
          rw [if_neg h0, if_neg h0, hN.out]
        obtain ⟨lo, hlo⟩ : ∃ x, (stK4 ts k).lo = x := ⟨_, rfl⟩
        obtain ⟨hi, hhi⟩ : ∃ x, (stK4 ts k).hi = x := ⟨_, rfl⟩
        rw [hlo, hhi] at HSq cS hs
        have HS1 := Lib.hid hs
        clear hlo hhi hs
        go_upto_region 4 with (fail)
        go_name_world V hV
        have HSV : Hid (Blk V (w.heap.size + 1) 23 #[.int .i64 (min lo v), .int .i64 (max hi v)]) := Lib.hid (by rw [← hV]; have h := (HSq.out.set_ 0 (.int .i64 (min lo v))).set_ 1 (.int .i64 (max hi v)); simpa using h)
        have HRV : Hid (Blk V w.heap.size 23 #[.int .i64 0, .int .i64 0]) := Lib.hid (by rw [← hV]; exact (HRq.out.far (p := ⟨w.heap.size + 1, 0, none⟩) hne _).far (p := ⟨w.heap.size + 1, 1, none⟩) hne _)
        have bV : Below w.heap.size w V := by rw [← hV]; exact (bq.setCell (p := ⟨w.heap.size + 1, 0, none⟩) (Nat.le_succ _) _).setCell (p := ⟨w.heap.size + 1, 1, none⟩) (Nat.le_succ _) _
        clear hV cS fS lS
        go_wp2_with fail
        go_roundw
        case rel => exact ⟨k + 1, by omega, by go_num, HRV, by rw [HS1.out]; exact HSV, bV⟩
        case measure => simp [intOf]; omega
    · obtain rfl : n = k := by omega
      have hqB : decide (((n : Nat) : Int) < n) = false := decide_eq_false (by omega)
      obtain ⟨lo, hlo⟩ : ∃ x, (stK4 ts n).lo = x := ⟨_, rfl⟩
      obtain ⟨hi, hhi⟩ : ∃ x, (stK4 ts n).hi = x := ⟨_, rfl⟩
      rw [hlo, hhi] at HS
      have cS := HS.out.cell
      have lS := HS.out.lt
      have cR := HR.out.cell
      have fR := HR.out.frozen
      have lR := HR.out.lt
      go_wp2_with fail
      have hbF := (HR.out.set_ 0 (.int .i64 lo)).set_ 1 (.int .i64 hi)
      simp only [List.setIfInBounds_toArray, List.set_cons_zero, List.set_cons_succ] at hbF
      exact bodyPost_ret (v := .agg #[.int .i64 lo, .int .i64 hi]) (results_cell_row Try.results55 _ _ w.heap.size 23 _ (0, 0) _ rfl hbF Try.underlying23 rfl (by kernel_rfl)) rfl ⟨by rw [hlo, hhi], (hb.setCell (p := ⟨w.heap.size, 0, none⟩) (Nat.le_refl _) _).setCell (p := ⟨w.heap.size, 1, none⟩) (Nat.le_refl _) _⟩

end Go.Proofs.Ytmmgkmdfecnkdaa

namespace Go.Proofs.Ytmmgkmdfecnkdaa
open Go.RowKit
open Go.Sort (grow)
set_option linter.unusedVariables false
set_option linter.unusedSimpArgs false

section
theorem truE4 : ElemT Try.prog 70 74 3 40 := by
  obtain ⟨i0, hi0, hz0, hz1, hz2⟩ := info_parts (P := Try.prog) (show (Try.prog.info? 74).map (fun i => (i.zero, i.size, i.bytes)) = some (some (.agg #[.int .i64 0, .int .i64 0, .slice none 0 0]), 3, 40) by kernel_rfl)
  exact ⟨Try.underlying70, ⟨i0, _, hi0, hz0, hz1, hz2, rfl⟩, by omega, by omega⟩
theorem thAt_lt {hs : List Th4} {h : Th4} {k : Nat} (hk : k < hs.length) : thAt (hs ++ [h]) k = thAt hs k := by
  unfold thAt; rw [List.getD_eq_getElem?_getD, List.getD_eq_getElem?_getD, List.getElem?_append_left hk]
theorem thAt_eq {hs : List Th4} {h : Th4} : thAt (hs ++ [h]) hs.length = h := by
  unfold thAt; rw [List.getD_eq_getElem?_getD]; simp
theorem tuAt_lt {ts : List (Int × Int × W4)} {t : Int × Int × W4} {k : Nat} (hk : k < ts.length) : tuAt (ts ++ [t]) k = tuAt ts k := by
  unfold tuAt; rw [List.getD_eq_getElem?_getD, List.getD_eq_getElem?_getD, List.getElem?_append_left hk]
theorem tuAt_eq {ts : List (Int × Int × W4)} {t : Int × Int × W4} : tuAt (ts ++ [t]) ts.length = t := by
  unfold tuAt; rw [List.getD_eq_getElem?_getD]; simp
end
/-- a head says a truth -/
structure ThIs (nr : Nat) (w : World) (h : Th4) (t : Int × Int × W4) : Prop where
  bf : h.bf = t.1
  af : h.af = t.2.1
  n : h.rd.n = nr
  rd : IntsAt w h.rd.A nr (uL4 nr t.2.2)
/-- a slice of truths that the call itself makes -/
structure OwnThs (nr base : Nat) (w : World) (v : Value) (n : Nat) (hs : List Th4) (ts : List (Int × Int × W4)) : Prop where
  own : w.ownsRow base 74 3 v n (hs.flatMap encTh4)
  hl : hs.length = n
  tl : ts.length = n
  inn : ∀ k, k < n → ThIs nr w (thAt hs k) (tuAt ts k) ∧ ∀ a, (thAt hs k).rd.A = some a → v.ownBlock ≠ some a.block ∧ a.block < w.heap.size
section
variable {nr base : Nat} {w w' : World} {v v' : Value} {n : Nat} {hs : List Th4} {ts : List (Int × Int × W4)}
theorem ThIs.later {h : Th4} {t : Int × Int × W4} (hi : ThIs nr w h t) (hb : Below w.heap.size w w') : ThIs nr w' h t := ⟨hi.bf, hi.af, hi.n, hi.rd.later hb⟩
theorem OwnThs.nil (nr : Nat) (w : World) (base : Nat) : OwnThs nr base w (.slice none 0 0) 0 [] [] :=
  ⟨World.ownsRow_nil w base _ 3, rfl, rfl, fun k hk => absurd hk (by omega)⟩
theorem OwnThs.later (h : OwnThs nr base w v n hs ts) (hb : Below w.heap.size w w') : OwnThs nr base w' v n hs ts :=
  ⟨own_below h.own hb, h.hl, h.tl, fun k hk => ⟨(h.inn k hk).1.later hb, fun a ha => ⟨((h.inn k hk).2 a ha).1, Nat.lt_of_lt_of_le ((h.inn k hk).2 a ha).2 hb.size⟩⟩⟩
theorem OwnThs.ths (h : OwnThs nr base w v n hs ts) : ∃ A c, v = .slice A n c ∧ ThsAt nr w A n hs ts := by
  obtain ⟨A, c, rfl, -, hsl⟩ := SlAt.of_own (d := (⟨0, 0, ⟨none, 0, 0⟩⟩ : Th4)) encTh4_len h.own h.hl
  exact ⟨A, c, rfl, hsl, h.tl, fun k hk => ⟨(h.inn k hk).1.bf, (h.inn k hk).1.af, (h.inn k hk).1.n, (h.inn k hk).1.rd⟩, fun k hk a ha => ((h.inn k hk).2 a ha).2⟩
theorem OwnThs.push (h : OwnThs nr base w v n hs ts) {o : Obj} {x : Th4} {t : Int × Int × W4} (hx : ThIs nr w x t) (hne : ∀ a, x.rd.A = some a → v.ownBlock ≠ some a.block ∧ a.block < w.heap.size)
    (ho : w'.ownsRow base 74 3 v' (n + 1) ((hs ++ [x]).flatMap encTh4)) (hg : (w.alloc o).grownBy w' v.ownBlock) (ha : v'.ownBlock = v.ownBlock ∨ v'.ownBlock = some (w.alloc o).heap.size) : OwnThs nr base w' v' (n + 1) (hs ++ [x]) (ts ++ [t]) := by
  have hsz := hg.size
  simp only [World.size_alloc] at hsz
  have one : ∀ (y : Th4) (s : Int × Int × W4), ThIs nr w y s → (∀ a, y.rd.A = some a → v.ownBlock ≠ some a.block ∧ a.block < w.heap.size) → ThIs nr w' y s ∧ ∀ a, y.rd.A = some a → v'.ownBlock ≠ some a.block ∧ a.block < w'.heap.size := by
    intro y s h1 h2
    refine ⟨⟨h1.bf, h1.af, h1.n, IntsAt.grown (h1.rd.later ((Below.refl _ _).alloc (Nat.le_refl _) o)) hg fun a e => (h2 a e).1⟩, fun a e => ⟨?_, by have := (h2 a e).2; omega⟩⟩
    rcases ha with ha | ha
    · rw [ha]; exact (h2 a e).1
    · rw [ha]
      intro e'
      have h3 := (h2 a e).2
      have h4 := Option.some.inj e'
      simp at h4
      omega
  refine ⟨ho, by simp [h.hl], by simp [h.tl], fun k hk => ?_⟩
  rcases Nat.lt_succ_iff_lt_or_eq.1 hk with h' | rfl
  · rw [thAt_lt (by rw [h.hl]; exact h'), tuAt_lt (by rw [h.tl]; exact h')]
    exact one _ _ (h.inn k h').1 (h.inn k h').2
  · have e1 := thAt_eq (hs := hs) (h := x)
    have e2 := tuAt_eq (ts := ts) (t := t)
    rw [h.hl] at e1
    rw [h.tl] at e2
    rw [e1, e2]
    exact one _ _ hx hne
end

end Go.Proofs.Ytmmgkmdfecnkdaa

namespace Go.Proofs.Ytmmgkmdfecnkdaa
open Go.RowKit
open Go.Sort (grow)
set_option linter.unusedVariables false
set_option linter.unusedSimpArgs false

set_option maxRecDepth 100000 in
set_option maxHeartbeats 1600000 in
theorem samep4_c (Ar : Option Addr) (nr cr : Nat) (Ad : Option Addr) (nd cd : Nat) (Br : Option Addr) (dr : Nat) (Bd : Option Addr) (dd : Nat) (p : P4) (w : World) (hnr : nr ≤ 40) (hnd : nd ≤ 40) (HA : MemP Ar nr Ad nd p w) (HB : MemP Br nr Bd nd p w) :
    Calls Try.prog 21 #[.agg #[.int .i64 p.ir, .int .i64 p.glo, .int .i64 p.ghi, .slice Ar nr cr, .slice Ad nd cd, .int .i64 p.wr], .agg #[.int .i64 p.ir, .int .i64 p.glo, .int .i64 p.ghi, .slice Br nr dr, .slice Bd nd dd, .int .i64 p.wr]] w fun e w' => e = .returned (.bool true) ∧ Below w.heap.size w w' := by
  have HMA := Lib.hid HA
  have HMB := Lib.hid HB
  clear HA HB
  obtain ⟨ir, glo, ghi, wrg, rods, res⟩ := p
  simp only at HMA HMB ⊢
  go_enter Try.func21, Try.ntmps21
  go_upto_region 1 with (fail)
  go_name_world X hX
  have BX : Below w.heap.size w X := (al2 hX).1
  have HPX : Hid (Blk X w.heap.size 27 #[.int .i64 ir, .int .i64 glo, .int .i64 ghi, .slice Ar nr cr, .slice Ad nd cd, .int .i64 wrg]) := by
    rw [← hX]; exact Lib.hid ((Blk.new w _ _).alloc _)
  have HQX : Hid (Blk X (w.heap.size + 1) 27 #[.int .i64 ir, .int .i64 glo, .int .i64 ghi, .slice Br nr dr, .slice Bd nd dd, .int .i64 wrg]) := by
    rw [← hX]
    have := Blk.new (w.alloc (.cells #[.int .i64 ir, .int .i64 glo, .int .i64 ghi, .slice Ar nr cr, .slice Ad nd cd, .int .i64 wrg] 27)) 27 #[.int .i64 ir, .int .i64 glo, .int .i64 ghi, .slice Br nr dr, .slice Bd nd dd, .int .i64 wrg]
    rw [World.size_alloc] at this
    exact Lib.hid this
  have qX := HPX.out.cell
  have lX := HPX.out.lt
  have rX := HQX.out.cell
  have mX := HQX.out.lt
  clear hX
  go_wp2_with fail
  go_loopw [5] (fun i (wr : World) => ∃ k : Nat, k ≤ nr ∧ i = .int .i64 k ∧ Below X.heap.size X wr) (fun i _ => nr - (intOf i).toNat)
  case atStart => exact ⟨0, by omega, by simp, Below.refl _ _⟩
  case round =>
    obtain ⟨k, hk, rfl, hb⟩ := hrel
    have qr := fun j => (hb.cell (p := ⟨w.heap.size, j, none⟩) lX).trans (qX j)
    have rr := fun j => (hb.cell (p := ⟨w.heap.size + 1, j, none⟩) mX).trans (rX j)
    have ql : w.heap.size < wr.heap.size := Nat.lt_of_lt_of_le lX hb.size
    have rl : w.heap.size + 1 < wr.heap.size := Nat.lt_of_lt_of_le mX hb.size
    by_cases hlt : k < nr
    · have hqB : decide ((k : Int) < nr) = true := decide_eq_true (by omega)
      have vk : IntKind.i64.wrap ((k : Int) + 1) = (k : Int) + 1 := IntWalk.i64_in _ (by omega)
      obtain ⟨ba, oa, eA, hba, x0, x1, x2⟩ := (HMA.out.later (BX.trans (hb.mono BX.size))).hr.get hlt
      cases eA
      obtain ⟨bb, ob, eB, hbb, z0, z1, z2⟩ := (HMB.out.later (BX.trans (hb.mono BX.size))).hr.get hlt
      cases eB
      obtain ⟨⟨y0, y1, y2⟩, hy⟩ : ∃ y, roAt rods k = y := ⟨_, rfl⟩
      rw [hy] at x0 x1 x2 z0 z1 z2
      simp only at x0 x1 x2 z0 z1 z2
      clear hy
      go_upto_region 6 with (fail)
      have hcq := fun p : Regrown => (bcell (below_regrown wr p.d p.os)).1
      refine wp_region_quiet_below (by kernel_rfl) (by kernel_rfl) ?_
      repeat (go_big_quiet_step ((fail)))
      refine wpQuiet_nil ?_
      intro wq hq
      obtain ⟨pq, hq⟩ := hq
      have hbq : Below wr.heap.size wr wq := by rw [hq]; exact below_regrown _ _ _
      clear hq hcq pq
      obtain ⟨hcq, hfq⟩ := bcell hbq
      have zq := hbq.size
      go_wp2_with fail
      go_roundw
      case rel => exact ⟨k + 1, by omega, by go_num, hb.trans (hbq.mono hb.size)⟩
      case measure => simp [intOf]; omega
    · obtain rfl : nr = k := by omega
      have hqB : decide (((nr : Nat) : Int) < nr) = false := decide_eq_false (by omega)
      go_wp2_with fail
      clear qr rr ql rl
      obtain ⟨wo, hwo⟩ : ∃ wo : World, wo = wr := ⟨_, rfl⟩
      rw [← hwo] at hb ⊢
      clear hwo wr
      go_loopw [6] (fun i (wr : World) => ∃ l : Nat, l ≤ nd ∧ i = .int .i64 l ∧ Below X.heap.size X wr) (fun i _ => nd - (intOf i).toNat)
      case atStart => exact ⟨0, by omega, by simp, hb⟩
      case round =>
        obtain ⟨l, hk, rfl, hc⟩ := hrel
        have qr := fun j => (hc.cell (p := ⟨w.heap.size, j, none⟩) lX).trans (qX j)
        have rr := fun j => (hc.cell (p := ⟨w.heap.size + 1, j, none⟩) mX).trans (rX j)
        have ql : w.heap.size < wr.heap.size := Nat.lt_of_lt_of_le lX hc.size
        have rl : w.heap.size + 1 < wr.heap.size := Nat.lt_of_lt_of_le mX hc.size
        by_cases hlt : l < nd
        · have hqB : decide ((l : Int) < nd) = true := decide_eq_true (by omega)
          have vk : IntKind.i64.wrap ((l : Int) + 1) = (l : Int) + 1 := IntWalk.i64_in _ (by omega)
          obtain ⟨ba, oa, eA, hba, x0, x1, x2, x3, x4, x5, x6⟩ := (HMA.out.later (BX.trans (hc.mono BX.size))).hd.get hlt
          cases eA
          obtain ⟨bb, ob, eB, hbb, z0, z1, z2, z3, z4, z5, z6⟩ := (HMB.out.later (BX.trans (hc.mono BX.size))).hd.get hlt
          cases eB
          obtain ⟨⟨y0, y1, y2, y3, y4, y5, y6⟩, hy⟩ : ∃ y, reAt res l = y := ⟨_, rfl⟩
          rw [hy] at x0 x1 x2 x3 x4 x5 x6 z0 z1 z2 z3 z4 z5 z6
          simp only at x0 x1 x2 x3 x4 x5 x6 z0 z1 z2 z3 z4 z5 z6
          clear hy
          go_upto_region 11 with (fail)
          have hcq := fun p : Regrown => (bcell (below_regrown wr p.d p.os)).1
          refine wp_region_quiet_below (by kernel_rfl) (by kernel_rfl) ?_
          repeat (go_big_quiet_step ((fail)))
          refine wpQuiet_nil ?_
          intro wq hq
          obtain ⟨pq, hq⟩ := hq
          have hbq : Below wr.heap.size wr wq := by rw [hq]; exact below_regrown _ _ _
          clear hq hcq pq
          obtain ⟨hcq, hfq⟩ := bcell hbq
          have zq := hbq.size
          go_wp2_with fail
          go_roundw
          case rel => exact ⟨l + 1, by omega, by go_num, hc.trans (hbq.mono hc.size)⟩
          case measure => simp [intOf]; omega
        · obtain rfl : nd = l := by omega
          have hqB : decide (((nd : Nat) : Int) < nd) = false := decide_eq_false (by omega)
          go_wp2_with fail
          go_ret
          exact ⟨rfl, BX.trans (hc.mono BX.size)⟩

end Go.Proofs.Ytmmgkmdfecnkdaa
