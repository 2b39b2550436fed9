/- A region that draws its order, whose operations only read but for the last one, which waits for all others: walked once, also in a round of a range over a function. -/
import Derived.OrdersIn
import Derived.Deep.Quiet
import Derived.Lib.QuietBelow
import Derived.TacticsIn
import Derived.RangeFuncCalls
import Derived.Test.YtcbeiadimchknaaGreatQp03
namespace Go.Proofs.YtcbeiadimchknaaGreat
open Go.RowKit
open Go.Sort (grow)
set_option linter.unusedVariables false
set_option linter.unusedSimpArgs false

section
variable {P : Program} {Q : Exit → Act → World → Prop}
/-- the last operation waits for all before it; the guards of those before refer to those before; they wait for those before -/
def lastWaits (l : List Oper) (o : Oper) : Bool :=
  (List.range l.length).all (fun j => o.after.any fun e => Region.binds .any e && decide (e.on = j)) && (l.all (fun p => match p.guard with | none => true | some (j, _) => decide (j < l.length))) && waitsBack l.toArray && o.after.all (fun e => !Region.binds .any e || decide (e.on < l.length)) && (l.all fun p => match p.op with | .defer _ => false | _ => true)
theorem wpOpIn_of_qOp {F : Fence} (hF : F = Fence.wide ∨ ∃ l, F = Fence.wide.inRound l) {n i : Nat} {ops pre : Array Oper} {C : World → Prop} {a : Act} {K : Act → Prop} {K' : Act → World → Prop} {w : World} (he : ops[i]? = pre[i]?)
    (hd : ∀ o, pre[i]? = some o → ∀ c, o.op ≠ .defer c) (hg : ∀ o, pre[i]? = some o → Region.wanted o (yielded ops a.tmps) = Region.wanted o (yielded pre a.tmps))
    (hC : C w) (h : ∀ a w', C w' → K a → K' a w') (hh : qOp P pre C i K a) : wpOpIn F n P ops Q i K' a w := by
  unfold qOp at hh
  unfold wpOpIn
  rw [he]
  cases ho : pre[i]? with
  | none => simp only [ho] at hh ⊢; exact h _ _ hC hh
  | some o =>
    simp only [ho] at hh ⊢
    rw [hg o ho]
    have hfn : ∀ f, F.fn f := by
      rcases hF with rfl | ⟨l, rfl⟩
      · exact fun f => trivial
      · exact fun f => trivial
    split
    · rename_i hw
      simp only [hw, if_true] at hh
      obtain ⟨v, h1, h2⟩ := hh
      have h3 := h1 w hC
      refine ⟨fun f _ => hfn f, ?_⟩
      have hsem : o.semAt F.round a.eval = execOp a.eval o := Oper.semAt_eq _ _ _ (hd o ho)
      rw [hsem]
      unfold Oper.quietAt at h3
      generalize (execOp a.eval o).run P w = r at *
      cases r with
      | ok nx w' =>
        cases nx <;> simp only [Oper.quietUpon] at h3 <;> simp only [Oper.uponIn]
        case value u =>
          obtain ⟨e1, e2⟩ := h3
          rw [e1, e2]
          exact h _ _ hC h2
        case skip =>
          obtain ⟨e1, e2⟩ := h3
          rw [e1, ← e2]
          exact h _ _ hC h2
        case enter f args =>
          obtain ⟨e1, hc⟩ := h3
          rw [e1]
          have hcc : CallsIn Fence.wide (n - 1) P f args w (fun e w'' => match e with
              | .returned v => K' (a.put o.dst v) w''
              | .panicked chain => Q (.panic chain) a w''
              | .outgrown => LetsOut Q) := callsIn_wide.2 (hc.mono fun e w'' ⟨he, hw''⟩ => by subst he; exact h _ _ hw'' h2)
          rcases hF with rfl | ⟨l, rfl⟩
          · refine ⟨fun hx => by simp [Fence.wide] at hx, ?_⟩
            exact hcc.mono fun e w'' hq => by cases e <;> exact hq
          · refine ⟨fun hx => by simp [Fence.wide, Fence.inRound] at hx, ?_⟩
            exact CallsIn.inRound l (hcc.mono fun e w'' hq => by cases e <;> exact hq)
      | halt x w' => simp only [Oper.quietUpon] at h3
    · rename_i hw
      simp only [hw] at hh
      exact ⟨fun f _ => hfn f, h _ _ hC hh⟩
section
variable {ops : Array Oper} {l : List Oper} {o : Oper}
theorem ql_lt (hops : ops.toList = l ++ [o]) {i : Nat} (hi : i < l.length) : ops[i]? = l.toArray[i]? := by
  rw [← Array.getElem?_toList, hops, List.getElem?_append_left hi]; simp
theorem ql_m (hops : ops.toList = l ++ [o]) : ops[l.length]? = some o := by
  rw [← Array.getElem?_toList, hops, List.getElem?_append_right (Nat.le_refl _)]; simp
theorem ql_le (hops : ops.toList = l ++ [o]) {i : Nat} {p : Oper} (h : ops[i]? = some p) : i ≤ l.length := by
  rw [← Array.getElem?_toList, hops] at h
  have := (List.getElem?_eq_some_iff.1 h).1
  simp at this
  omega
theorem push_getD {listed : Array Bool} {i : Nat} {d : Bool} (hi : i < listed.size) : (listed.push false).getD i d = listed.getD i d := by
  simp only [Array.getD_eq_getD_getElem?, Array.getElem?_push]
  rw [if_neg (by omega)]
theorem getD_d {listed : Array Bool} {i : Nat} (hi : i < listed.size) (d d' : Bool) : listed.getD i d = listed.getD i d' := by
  simp only [Array.getD_eq_getD_getElem?, Array.getElem?_eq_getElem hi, Option.getD_some]
structure Lw (l : List Oper) (o : Oper) : Prop where
  w1 : ∀ j, j < l.length → ∃ e ∈ o.after, Region.binds .any e = true ∧ e.on = j
  w2 : ∀ p ∈ l, ∀ j b, p.guard = some (j, b) → j < l.length
  w3 : waitsBack l.toArray = true
  w4 : ∀ e ∈ o.after, Region.binds .any e = true → e.on < l.length
  w5 : ∀ p ∈ l, ∀ c, p.op ≠ .defer c
theorem lw_of (h : lastWaits l o = true) : Lw l o := by
  unfold lastWaits at h
  simp only [Bool.and_eq_true, List.all_eq_true, List.mem_range] at h
  obtain ⟨⟨⟨⟨h1, h2⟩, h3⟩, h4⟩, h5⟩ := h
  refine ⟨fun j hj => ?_, fun p hp j b hg => ?_, h3, fun e he hb => ?_, fun p hp c hc => ?_⟩
  · have := h1 j hj
    rw [Array.any_eq_true] at this
    obtain ⟨i, hi, hx⟩ := this
    simp only [Bool.and_eq_true, decide_eq_true_eq] at hx
    exact ⟨o.after[i], Array.getElem_mem hi, hx.1, hx.2⟩
  · have := h2 p hp
    rw [hg] at this
    simpa using this
  · rw [Array.all_eq_true_iff_forall_mem] at h4
    have := h4 e he
    rw [hb] at this
    simpa using this
  · have := h5 p hp
    rw [hc] at this
    simp at this
theorem back_of (hw : waitsBack l.toArray = true) {i : Nat} {p : Oper} (h : l.toArray[i]? = some p) {e : _} (he : e ∈ p.after) (hb : Region.binds .any e = true) : e.on < i := by
  unfold waitsBack at hw
  rw [List.all_eq_true] at hw
  have hi : i < l.toArray.size := (Array.getElem?_eq_some_iff.1 h).1
  have h1 := hw i (by simpa using hi)
  rw [h] at h1
  simp only [Option.map_some, Option.getD_some, Array.all_eq_true_iff_forall_mem] at h1
  have h2 := h1 e he
  rw [hb] at h2
  simpa using h2
theorem ready_lt (hops : ops.toList = l ++ [o]) (hw : Lw l o) {listed : Array Bool} (hs : listed.size = l.length) {i : Nat} (hi : i < l.length) : i ∈ Region.ready .any ops (listed.push false) ↔ i ∈ Region.ready .any l.toArray listed := by
  rw [mem_ready, mem_ready, ql_lt hops hi, push_getD (by omega)]
  refine and_congr_right fun _ => ⟨fun ⟨p, hp, h⟩ => ⟨p, hp, fun e he hb => ?_⟩, fun ⟨p, hp, h⟩ => ⟨p, hp, fun e he hb => ?_⟩⟩
  · have := back_of hw.w3 hp he hb
    rw [← push_getD (by omega)]; exact h e he hb
  · have := back_of hw.w3 hp he hb
    rw [push_getD (by omega)]; exact h e he hb
theorem ready_last (hops : ops.toList = l ++ [o]) (hw : Lw l o) {listed : Array Bool} (hs : listed.size = l.length) (h : l.length ∈ Region.ready .any ops (listed.push false)) : Region.ready .any l.toArray listed = [] := by
  obtain ⟨-, p, hp, hall⟩ := mem_ready.1 h
  rw [ql_m hops] at hp
  cases hp
  cases er : Region.ready .any l.toArray listed with
  | nil => rfl
  | cons i r =>
    have hm : i ∈ Region.ready .any l.toArray listed := by rw [er]; simp
    obtain ⟨h1, p, hp, -⟩ := mem_ready.1 hm
    have hi : i < l.length := by have := (Array.getElem?_eq_some_iff.1 hp).1; simpa using this
    obtain ⟨e, he, hb, rfl⟩ := hw.w1 i hi
    have := hall e he hb
    rw [push_getD (by omega), getD_d (by omega) false true, h1] at this
    cases this
theorem ready_all' (hops : ops.toList = l ++ [o]) (hw : Lw l o) {listed : Array Bool} (hs : listed.size = l.length) (h : Region.ready .any l.toArray listed = []) : l.length ∈ Region.ready .any ops (listed.push false) ∧ Region.ready .any ops ((listed.push false).setIfInBounds l.length true) = [] := by
  have hall := ready_all (listed := listed) hw.w3 (by simpa using hs) h
  refine ⟨mem_ready.2 ⟨?_, o, ql_m hops, fun e he hb => ?_⟩, ?_⟩
  · simp only [Array.getD_eq_getD_getElem?, Array.getElem?_push]
    rw [if_pos hs.symm]; rfl
  · have := hw.w4 e he hb
    rw [push_getD (by omega), getD_d (by omega) false true]; exact hall _
  · cases e : Region.ready .any ops ((listed.push false).setIfInBounds l.length true) with
    | nil => rfl
    | cons i r =>
      have hm : i ∈ Region.ready .any ops ((listed.push false).setIfInBounds l.length true) := by rw [e]; simp
      obtain ⟨h1, p, hp, -⟩ := mem_ready.1 hm
      have hi := ql_le hops hp
      by_cases hil : i = l.length
      · subst hil
        simp [Array.getD_eq_getD_getElem?, hs] at h1
      · have h2 := hall i
        rw [← push_getD (d := true) (show i < listed.size by omega)] at h2
        simp only [Array.getD_eq_getD_getElem?, Array.getElem?_setIfInBounds] at h1 h2
        rw [if_neg (fun h => hil h.symm), h2] at h1
        cases h1
theorem any_of_quiet_last {F : Fence} (hF : F = Fence.wide ∨ ∃ l, F = Fence.wide.inRound l) {n : Nat} {C : World → Prop} {Qe : Act → Prop} (hops : ops.toList = l ++ [o]) (hw : Lw l o)
    (hend : ∀ a w, C w → Qe a → wpOpIn F n P ops Q l.length (fun a' w' => Q .normal a' w') a w) :
    ∀ (fuel : Nat) (listed : Array Bool) (a : Act) (w : World), listed.size = l.length → C w → wpAnyQ P .any l.toArray C Qe fuel listed a → wpAnyIn F n P .any ops Q (fuel + 1) (listed.push false) a w := by
  have fin : ∀ (fuel : Nat) (listed : Array Bool) (a : Act) (w : World), listed.size = l.length → C w → Region.ready .any l.toArray listed = [] → Qe a → wpAnyIn F n P .any ops Q (fuel + 1) (listed.push false) a w := by
    intro fuel listed a w hs hC hr hq
    obtain ⟨h1, h2⟩ := ready_all' hops hw hs hr
    refine ⟨fun h => (by rw [h] at h1; cases h1), fun i hi => ?_⟩
    have hi' : i = l.length := by
      obtain ⟨-, p, hp, -⟩ := mem_ready.1 hi
      have := ql_le hops hp
      refine Classical.byContradiction fun hn => ?_
      have := (ready_lt hops hw hs (show i < l.length by omega)).1 hi
      rw [hr] at this
      cases this
    subst hi'
    refine wpOpIn_mono (fun a' w' hq' => ?_) (hend a w hC hq)
    cases fuel with
    | zero => exact ⟨h2, hq'⟩
    | succ fuel => exact ⟨fun _ => hq', fun i hi => (by rw [h2] at hi; cases hi)⟩
  intro fuel
  induction fuel with
  | zero => exact fun listed a w hs hC h => fin 0 listed a w hs hC h.1 h.2
  | succ fuel ih =>
    intro listed a w hs hC h
    by_cases hr : Region.ready .any l.toArray listed = []
    · exact fin _ listed a w hs hC hr (h.1 hr)
    · refine ⟨fun h0 => ?_, fun i hi => ?_⟩
      · obtain ⟨i, hi⟩ := List.exists_mem_of_ne_nil _ hr
        have hil : i < l.length := by
          obtain ⟨-, p, hp, -⟩ := mem_ready.1 hi
          have := (Array.getElem?_eq_some_iff.1 hp).1; simpa using this
        have := (ready_lt hops hw hs hil).2 hi
        rw [h0] at this
        cases this
      · have hil : i < l.length := by
          obtain ⟨-, p, hp, -⟩ := mem_ready.1 hi
          have := ql_le hops hp
          refine Classical.byContradiction fun hn => hr (ready_last hops hw hs ?_)
          rw [show l.length = i by omega]; exact hi
        have hi' := (ready_lt hops hw hs hil).1 hi
        refine wpOpIn_of_qOp hF (ql_lt hops hil) (fun p hp => ?_) (fun p hp => ?_) hC (fun a' w' hC' hk => ?_) (h.2 i hi')
        · exact hw.w5 p (by rw [List.getElem?_toArray] at hp; exact List.mem_of_getElem? hp)
        · unfold Region.wanted
          cases hg : p.guard with
          | none => rfl
          | some jb =>
            obtain ⟨j, b⟩ := jb
            have := hw.w2 p (by rw [List.getElem?_toArray] at hp; exact List.mem_of_getElem? hp) j b hg
            simp only [yielded, ql_lt hops this]
        · have := ih (listed.setIfInBounds i true) a' w' (by simpa using hs) hC' hk
          have e : (listed.push false).setIfInBounds i true = (listed.setIfInBounds i true).push false := by
            apply Array.ext_getElem?
            intro k
            simp only [Array.getElem?_setIfInBounds, Array.getElem?_push, Array.size_setIfInBounds, Array.size_push]
            by_cases h1 : i = k
            · subst h1
              rw [if_pos rfl, if_pos (by omega), if_neg (by omega), if_pos rfl, if_pos (by omega)]
            · rw [if_neg h1, if_neg h1]
          rw [e]; exact this
end
/-- THE LAW, in a round (or without a fence): the last operation is met as 'gi_wp2' meets it -/
theorem wpIn_region_quiet_last {F : Fence} (hF : F = Fence.wide ∨ ∃ l, F = Fence.wide.inRound l) {n id : Nat} {ops : Array Oper} {a : Act} {w : World} {l : List Oper} {o : Oper} (hm : P.follows .mixedOrders = true) (hops : ops.toList = l ++ [o])
    (hB : Region.lexB .any l.toArray = true) (hw : lastWaits l o = true)
    (h : wpQuiet P l.toArray (fun w' => ∃ p : Regrown, w' = Go.Sort.grow (redrawn w p.d) p.os) (fun a' => ∀ w', (∃ p : Regrown, w' = Go.Sort.grow (redrawn w p.d) p.os) → wpListIn F n P ops Q [o] a' w') l a) : (Code.region id ops true).wpIn F n P Q a w := by
  simp only [Region.lexB, Bool.and_eq_true] at hB
  have hsz : ops.size = l.length + 1 := by rw [← Array.length_toList, hops]; simp
  refine wpIn_region_any hm ?_
  have hq := wpAnyQ_lex (C := fun w' => ∃ p : Regrown, w' = Go.Sort.grow (redrawn w p.d) p.os) (md := .any) hB.1 l 0 (Array.replicate l.length false) a (by simp) (by simpa using hB.2) h
  have := any_of_quiet_last (n := n) (Q := Q) hF hops (lw_of hw) (Qe := fun a' => ∀ w', (∃ p : Regrown, w' = Go.Sort.grow (redrawn w p.d) p.os) → wpListIn F n P ops Q [o] a' w') (fun a w hC hQ => by
    have := hQ w hC
    unfold wpOpIn
    rw [ql_m hops]
    exact this) l.length (Array.replicate l.length false) a { w with drawn := w.drawn + 1 } (by simp) ⟨⟨w.drawn + 1, #[]⟩, by rw [Go.Sort.grow_empty]; rfl⟩ hq
  rw [hsz, Array.replicate_succ]
  exact this
/-- the same, the last operation struck off by the walk itself -/
theorem wpIn_region_quiet_then {F : Fence} (hF : F = Fence.wide ∨ ∃ l, F = Fence.wide.inRound l) {n id : Nat} {ops : Array Oper} {a : Act} {w : World} {l : List Oper} {o : Oper} (hm : P.follows .mixedOrders = true) (hl : ops.toList.dropLast = l) (ho : ops.toList.getLast? = some o)
    (hB : Region.lexB .any l.toArray = true) (hw : lastWaits l o = true)
    (h : wpQuiet P l.toArray (fun w' => ∃ p : Regrown, w' = Go.Sort.grow (redrawn w p.d) p.os) (fun a' => ∀ w', (∃ p : Regrown, w' = Go.Sort.grow (redrawn w p.d) p.os) → wpListIn F n P ops Q [o] a' w') l a) : (Code.region id ops true).wpIn F n P Q a w := by
  refine wpIn_region_quiet_last hF hm ?_ hB hw h
  obtain ⟨ys, hy⟩ := List.getLast?_eq_some_iff.1 ho
  rw [← hl, hy, List.dropLast_concat]
/-- a region that only reads, in a round -/
theorem wpIn_region_quiet_round {l₀ n id : Nat} {a : Act} {w : World} {l : List Oper} (hm : P.follows .mixedOrders = true) (hB : Region.lexB .any l.toArray = true) (hd : (l.all fun p => match p.op with | .defer _ => false | _ => true) = true)
    (h : wpQuiet P l.toArray (fun w' => ∃ p : Regrown, w' = Go.Sort.grow (redrawn w p.d) p.os) (fun a' => ∀ w', (∃ p : Regrown, w' = Go.Sort.grow (redrawn w p.d) p.os) → Q .normal a' w') l a) : (Code.region id l.toArray true).wpIn (Fence.wide.inRound l₀) n P Q a w := by
  simp only [Region.lexB, Bool.and_eq_true] at hB
  refine wpIn_region_any hm ?_
  have hq := wpAnyQ_lex (C := fun w' => ∃ p : Regrown, w' = Go.Sort.grow (redrawn w p.d) p.os) (md := .any) hB.1 l 0 (Array.replicate l.length false) a (by simp) (by simpa using hB.2) h
  have key : ∀ (fuel : Nat) (listed : Array Bool) (a : Act) (w' : World), (∃ p : Regrown, w' = Go.Sort.grow (redrawn w p.d) p.os) → wpAnyQ P .any l.toArray (fun w' => ∃ p : Regrown, w' = Go.Sort.grow (redrawn w p.d) p.os) (fun a' => ∀ w', (∃ p : Regrown, w' = Go.Sort.grow (redrawn w p.d) p.os) → Q .normal a' w') fuel listed a → wpAnyIn (Fence.wide.inRound l₀) n P .any l.toArray Q fuel listed a w' := by
    intro fuel
    induction fuel with
    | zero => exact fun listed a w' hC h => ⟨h.1, h.2 w' hC⟩
    | succ fuel ih =>
      intro listed a w' hC h
      refine ⟨fun h0 => h.1 h0 w' hC, fun i hi => wpOpIn_of_qOp (.inr ⟨l₀, rfl⟩) rfl (fun p hp c hc => ?_) (fun p hp => rfl) hC (fun a' w'' hC' hk => ih _ a' w'' hC' hk) (h.2 i hi)⟩
      rw [List.getElem?_toArray] at hp
      rw [List.all_eq_true] at hd
      have := hd p (List.mem_of_getElem? hp)
      rw [hc] at this
      simp at this
  have := key l.length (Array.replicate l.length false) a { w with drawn := w.drawn + 1 } ⟨⟨w.drawn + 1, #[]⟩, by rw [Go.Sort.grow_empty]; rfl⟩ hq
  simpa using this
end

end Go.Proofs.YtcbeiadimchknaaGreat
