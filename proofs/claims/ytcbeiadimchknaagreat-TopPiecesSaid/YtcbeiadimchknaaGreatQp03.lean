/- A number within bounds; Chapter 08 (orders), data: rates, stocks, needs; what needs, cable, makes and known reckon, in plain terms; append onto a slice that has no room: a new row; what was there stays as it was; A region that draws its order, by an invariant: what is known of the frame and the world once some of its operations have come up, in whatever order; Proving machines (layer 3): levers, balances, settings in plain Lean, and in memory. -/
import Derived.Test.YtcbeiadimchknaaGreatQp02
import Derived.Test.YtcbeiadimchknaaGreatQp01
namespace Go.Proofs.YtcbeiadimchknaaGreat
open Go.RowKit
open Go.Sort (grow)
set_option linter.unusedVariables false
set_option linter.unusedSimpArgs false

def wn (n a b : Int) : Bool := decide (a ≤ n) && decide (n ≤ b)
theorem wn_true {x a b : Int} : wn x a b = true ↔ a ≤ x ∧ x ≤ b := by simp [wn]
theorem own_at {w : World} {base : Nat} {e : TypeId} {g n c k : Nat} {xs : List Int} (h : w.ownsRow base e 1 (.slice (some ⟨g, 0, none⟩) n c) n (xs.flatMap encI)) (hl : xs.length = n) (hk : k < n) :
    w.cell? ⟨g, k, none⟩ = some (.int .i64 (iAt xs k)) := by
  have h1 := (h.cellAt (k * 1 + 0) (by omega)).trans (flat_get (d := (0 : Int)) encI_len xs k 0 (by omega) (by omega))
  simpa [encI, iAt] using h1

end Go.Proofs.YtcbeiadimchknaaGreat

namespace Go.Proofs.YtcbeiadimchknaaGreat
open Go.RowKit
open Go.Sort (grow)
set_option linter.unusedVariables false
set_option linter.unusedSimpArgs false

structure Rt8 where
  tons : Int
  size : Int
  long : Int
def encR8 (r : Rt8) : List Value := [.int .i64 r.tons, .int .i64 r.size, .int .i64 r.long]
theorem encR8_len (x : Rt8) : (encR8 x).length = 3 := rfl
theorem encR8_one (x : Rt8) : ∀ u ∈ encR8 x, u.oneCell' = true := by
  intro u hu; simp only [encR8, List.mem_cons, List.not_mem_nil, or_false] at hu; rcases hu with rfl | rfl | rfl <;> rfl
def rtAt (rs : List Rt8) (k : Nat) : Rt8 := rs.getD k ⟨0, 0, 0⟩
def RtsAt (w : World) (A : Option Addr) (n : Nat) (rs : List Rt8) : Prop := SlAt encR8 3 ⟨0, 0, 0⟩ w A n rs
structure Sk8 where
  size : Int
  lo : Int
  hi : Int
def encK8 (r : Sk8) : List Value := [.int .i64 r.size, .int .i64 r.lo, .int .i64 r.hi]
theorem encK8_len (x : Sk8) : (encK8 x).length = 3 := rfl
theorem encK8_one (x : Sk8) : ∀ u ∈ encK8 x, u.oneCell' = true := by
  intro u hu; simp only [encK8, List.mem_cons, List.not_mem_nil, or_false] at hu; rcases hu with rfl | rfl | rfl <;> rfl
def skAt (ks : List Sk8) (k : Nat) : Sk8 := ks.getD k ⟨0, 0, 0⟩
def SksAt (w : World) (A : Option Addr) (n : Nat) (ks : List Sk8) : Prop := SlAt encK8 3 ⟨0, 0, 0⟩ w A n ks
structure Nd8 where
  size : Int
  long : Int
deriving DecidableEq
def encN8 (r : Nd8) : List Value := [.int .i64 r.size, .int .i64 r.long]
theorem encN8_len (x : Nd8) : (encN8 x).length = 2 := rfl
theorem encN8_one (x : Nd8) : ∀ u ∈ encN8 x, u.oneCell' = true := by
  intro u hu; simp only [encN8, List.mem_cons, List.not_mem_nil, or_false] at hu; rcases hu with rfl | rfl <;> rfl
def ndAt (ns : List Nd8) (k : Nat) : Nd8 := ns.getD k ⟨0, 0⟩
def NdsAt (w : World) (A : Option Addr) (n : Nat) (ns : List Nd8) : Prop := SlAt encN8 2 ⟨0, 0⟩ w A n ns
theorem RtsAt.later {w w' : World} {A : Option Addr} {n : Nat} {es : List Rt8} (h : RtsAt w A n es) (hb : Below w.heap.size w w') : RtsAt w' A n es := ⟨h.1, h.2.later hb⟩
theorem SksAt.later {w w' : World} {A : Option Addr} {n : Nat} {es : List Sk8} (h : SksAt w A n es) (hb : Below w.heap.size w w') : SksAt w' A n es := ⟨h.1, h.2.later hb⟩
theorem NdsAt.later {w w' : World} {A : Option Addr} {n : Nat} {es : List Nd8} (h : NdsAt w A n es) (hb : Below w.heap.size w w') : NdsAt w' A n es := ⟨h.1, h.2.later hb⟩
theorem RtsAt.get {w : World} {A : Option Addr} {n : Nat} {es : List Rt8} (h : RtsAt w A n es) {k : Nat} (hk : k < n) :
    ∃ b off, A = some ⟨b, off, none⟩ ∧ b < w.heap.size ∧ w.cell? ⟨b, off + k * 3, none⟩ = some (.int .i64 (rtAt es k).tons) ∧ w.cell? ⟨b, off + k * 3 + 1, none⟩ = some (.int .i64 (rtAt es k).size) ∧ w.cell? ⟨b, off + k * 3 + 2, none⟩ = some (.int .i64 (rtAt es k).long) := by
  obtain ⟨b, off, e, hb, hc⟩ := h.2 (by omega)
  exact ⟨b, off, e, hb, hc k hk 0 _ rfl, hc k hk 1 _ rfl, hc k hk 2 _ rfl⟩
theorem SksAt.get {w : World} {A : Option Addr} {n : Nat} {es : List Sk8} (h : SksAt w A n es) {k : Nat} (hk : k < n) :
    ∃ b off, A = some ⟨b, off, none⟩ ∧ b < w.heap.size ∧ w.cell? ⟨b, off + k * 3, none⟩ = some (.int .i64 (skAt es k).size) ∧ w.cell? ⟨b, off + k * 3 + 1, none⟩ = some (.int .i64 (skAt es k).lo) ∧ w.cell? ⟨b, off + k * 3 + 2, none⟩ = some (.int .i64 (skAt es k).hi) := by
  obtain ⟨b, off, e, hb, hc⟩ := h.2 (by omega)
  exact ⟨b, off, e, hb, hc k hk 0 _ rfl, hc k hk 1 _ rfl, hc k hk 2 _ rfl⟩
theorem NdsAt.get {w : World} {A : Option Addr} {n : Nat} {es : List Nd8} (h : NdsAt w A n es) {k : Nat} (hk : k < n) :
    ∃ b off, A = some ⟨b, off, none⟩ ∧ b < w.heap.size ∧ w.cell? ⟨b, off + k * 2, none⟩ = some (.int .i64 (ndAt es k).size) ∧ w.cell? ⟨b, off + k * 2 + 1, none⟩ = some (.int .i64 (ndAt es k).long) := by
  obtain ⟨b, off, e, hb, hc⟩ := h.2 (by omega)
  exact ⟨b, off, e, hb, hc k hk 0 _ rfl, hc k hk 1 _ rfl⟩
/-- an order that is valid -/
structure Ok8 (nr ns nk : Nat) (rs : List Rt8) (ss : List Sp) (ks : List Sk8) (shk : Int) : Prop where
  rl : nr ≤ 6
  sl : ns ≤ 3
  kl : nk ≤ 7
  shk : 0 ≤ shk ∧ shk ≤ 9
  rt : ∀ k, k < nr → (0 ≤ (rtAt rs k).tons ∧ (rtAt rs k).tons ≤ 9999) ∧ (1 ≤ (rtAt rs k).size ∧ (rtAt rs k).size ≤ 99) ∧ (0 ≤ (rtAt rs k).long ∧ (rtAt rs k).long ≤ 999)
  inc : ∀ k, k + 1 < nr → (rtAt rs k).tons < (rtAt rs (k + 1)).tons
  sp : ∀ k, k < ns → 0 ≤ (spAt ss k).lo ∧ (spAt ss k).lo ≤ (spAt ss k).hi ∧ (spAt ss k).hi ≤ 9999
  sk : ∀ k, k < nk → (1 ≤ (skAt ks k).size ∧ (skAt ks k).size ≤ 99) ∧ 1 ≤ (skAt ks k).lo ∧ (skAt ks k).lo ≤ (skAt ks k).hi ∧ (skAt ks k).hi ≤ 999
/-- what a ship of t tons needs by the first k rates -/
def ndT (rs : List Rt8) (t : Int) : Nat → Nd8
  | 0 => ⟨0, 0⟩
  | k + 1 => if (rtAt rs k).tons ≤ t then ⟨(rtAt rs k).size, (rtAt rs k).long⟩ else ndT rs t k
/-- the needs of k tonnages from t on -/
def nL (rs : List Rt8) (nr : Nat) (t : Int) : Nat → List Nd8
  | 0 => []
  | k + 1 => if nL rs nr t k |>.contains (ndT rs (t + k) nr) then nL rs nr t k else nL rs nr t k ++ [ndT rs (t + k) nr]
/-- how often a need was met -/
def nC (rs : List Rt8) (nr : Nat) (t : Int) (x : Nd8) : Nat → Nat
  | 0 => 0
  | k + 1 => nC rs nr t x k + if ndT rs (t + k) nr = x then 1 else 0
theorem nC_le {rs : List Rt8} {nr : Nat} {t : Int} {x : Nd8} : ∀ k, nC rs nr t x k ≤ k
  | 0 => Nat.le_refl _
  | k + 1 => by
    have := nC_le (rs := rs) (nr := nr) (t := t) (x := x) k
    unfold nC; split <;> omega
theorem nC_mem {rs : List Rt8} {nr : Nat} {t : Int} {x : Nd8} : ∀ k, 0 < nC rs nr t x k ↔ x ∈ nL rs nr t k
  | 0 => by simp [nC, nL]
  | k + 1 => by
    have ih := nC_mem (rs := rs) (nr := nr) (t := t) (x := x) k
    unfold nC nL
    by_cases h : ndT rs (t + k) nr = x
    · subst h
      rw [if_pos rfl]
      split
      · rename_i hc
        rw [List.contains_iff_mem] at hc
        simp [hc]
      · simp
    · rw [if_neg h, Nat.add_zero, ih]
      split
      · rfl
      · rw [List.mem_append]
        simp only [List.mem_singleton]
        exact ⟨fun a => .inl a, fun a => a.elim id fun b => absurd b.symm h⟩
theorem nL_len {rs : List Rt8} {nr : Nat} {t : Int} : ∀ k, (nL rs nr t k).length ≤ k
  | 0 => Nat.le_refl _
  | k + 1 => by
    have := nL_len (rs := rs) (nr := nr) (t := t) k
    unfold nL
    split
    · omega
    · rw [List.length_append]; simp; omega
/-- the needs of a ship -/
def nS (rs : List Rt8) (nr : Nat) (s : Sp) : List Nd8 := nL rs nr s.lo (s.hi - s.lo + 1).toNat
structure Cb8 where
  many : Nat
  size : Int
  lo : Int
  hi : Int
/-- what cable has found behind the first k stocks; none: not all of one size -/
def cbK (ks : List Sk8) (shk : Int) (pl : List Int) (sh : Int) : Nat → Option Cb8
  | 0 => some ⟨0, 99, 0, 0⟩
  | k + 1 => match cbK ks shk pl sh k with
    | none => none
    | some s => if iAt pl k = sh then (if 0 < s.many ∧ (skAt ks k).size ≠ s.size then none else some ⟨s.many + 1, (skAt ks k).size, (if 0 < s.many then s.lo + shk else s.lo) + (skAt ks k).lo, (if 0 < s.many then s.hi + shk else s.hi) + (skAt ks k).hi⟩) else some s
def cbR (ks : List Sk8) (shk : Int) (pl : List Int) (sh : Int) (n : Nat) : Int × Int × Int := match cbK ks shk pl sh n with
  | none => (-1, 0, 0)
  | some s => (s.size, s.lo, s.hi)
/-- what is known of a ship: 1 surely, 2 never, 3 perhaps -/
def mk8 (nds : List Nd8) (c : Int × Int × Int) : Int :=
  if (allN nds.length fun k => decide ((ndAt nds k).size ≤ c.1) && decide ((ndAt nds k).long ≤ c.2.1)) then 1
  else if (allN nds.length fun k => decide (c.1 < (ndAt nds k).size) || decide (c.2.2 < (ndAt nds k).long)) then 2 else 3
def hlAt (hs : List (List Nd8)) (k : Nat) : List Nd8 := hs.getD k []
/-- what is known of a plan by the first k ships: 2 is final -/
def knK (hs : List (List Nd8)) (ks : List Sk8) (shk : Int) (pl : List Int) (nk : Nat) : Nat → Int
  | 0 => 1
  | k + 1 => if knK hs ks shk pl nk k = 2 then 2 else if mk8 (hlAt hs k) (cbR ks shk pl k nk) = 2 then 2 else if mk8 (hlAt hs k) (cbR ks shk pl k nk) = 3 then 3 else knK hs ks shk pl nk k
/-- all plans that begin with p, r stocks more -/
def plL (m : Nat) : Nat → List Int → List (List Int)
  | 0, p => [p]
  | r + 1, p => (List.range (m + 1)).flatMap fun (i : Nat) => plL m r (p ++ [(i : Int) - 1])
def usK (p : List Int) : Nat → Nat
  | 0 => 0
  | k + 1 => if 0 ≤ iAt p k then usK p k + 1 else usK p k

end Go.Proofs.YtcbeiadimchknaaGreat

namespace Go.Proofs.YtcbeiadimchknaaGreat
open Go.RowKit
open Go.Sort (grow)
set_option linter.unusedVariables false
set_option linter.unusedSimpArgs false

section
variable {P : Program} (w : World)
theorem run_append_new {α : Type} {enc : α → List Value} {d : α} (t ty e : TypeId) (size bytes : Nat) (E : ElemT P t e size bytes) (hs : ∀ x, (enc x).length = size)
    (B : Option Addr) (n cap : Nat) (xs : List α) (hS : SlAt enc size d w B n xs) (hB : B = none → n = 0 ∧ cap = 0)
    (A : Option Addr) (m c : Nat) (ys : List α) (hr : SlAt enc size d w A m ys) (hm : 0 < m) (hg : cap < n + m) (hsz : n + m ≤ 100000) :
    ∃ c' w', (Builtin.append_ #[t, t] ty #[.slice B n cap, .slice A m c]).run P w = .ok (.slice (some ⟨w.heap.size, 0, none⟩) (n + m) c') w' ∧
      w'.ownsRow w.heap.size e size (.slice (some ⟨w.heap.size, 0, none⟩) (n + m) c') (n + m) ((xs ++ ys).flatMap enc) ∧ Below w.heap.size w w' := by
  obtain ⟨i, z, hi, hz, hsize, hby, hzs⟩ := E.info
  have ht := E.ht
  subst hsize
  subst hby
  have hsm := E.small
  have hx := hS.reads hs E.pos
  have hy := hr.reads hs E.pos
  have h63 : n + m ≤ maxLen := by unfold maxLen; omega
  have hbytes : (n + m) * i.bytes ≤ 140737488355328 := by
    have : (n + m) * i.bytes ≤ 100000 * 1000 := Nat.mul_le_mul hsz hsm
    omega
  have hlen : (xs.flatMap enc ++ ys.flatMap enc).length = (n + m) * i.size := by rw [List.length_append, hx.1, hy.1, Nat.add_mul]
  have grown : ∀ (old : Nat), old < n + m →
      (w.drew.alloc (.cells ((xs.flatMap enc).toArray ++ (ys.flatMap enc).toArray ++ Builtin.zeroCells z.cells (grownCap w (n + m) old e - (n + m))) e)).ownsRow w.heap.size e i.size
        (.slice (some ⟨w.heap.size, 0, none⟩) (n + m) (grownCap w (n + m) old e)) (n + m) ((xs ++ ys).flatMap enc) ∧
      Below w.heap.size w (w.drew.alloc (.cells ((xs.flatMap enc).toArray ++ (ys.flatMap enc).toArray ++ Builtin.zeroCells z.cells (grownCap w (n + m) old e - (n + m))) e)) := by
    intro old ho
    have hge := grownCap_ge w (n + m) old e
    have hcm : grownCap w (n + m) old e ≤ maxLen := grownCap_le_maxLen w (n + m) old e h63
    rw [List.flatMap_append]
    refine ⟨⟨hlen, .inr ⟨w.heap.size, _, _, rfl, Nat.le_refl _, heap_alloc_new w.drew _, hge, hcm, ?_, ?_⟩⟩, ((Below.refl _ w).drew).alloc (Nat.le_refl _) _⟩
    · simp only [Array.size_append, List.size_toArray, size_zeroCells, hzs, hx.1, hy.1, ← Nat.add_mul]
      congr 1
      omega
    · simp only [Array.toList_append, List.append_assoc]
      rw [← List.append_assoc, ← hlen]
      exact List.take_left
  obtain ⟨a, rfl, -, hnews⟩ := hy.2 hm
  cases B with
  | none =>
    obtain ⟨rfl, rfl⟩ := hB rfl
    have hx0 : xs = [] := List.eq_nil_of_length_eq_zero hS.1
    subst hx0
    have hr' := run_append_nil (P := P) w t ty e i z ht hi hz a m c (ys.flatMap enc) hy.1 hnews hm (by omega) (by have hb := hbytes; simp only [Nat.zero_add] at hb; omega)
    have hgr := grown 0 (by omega)
    simp only [Nat.zero_add, List.nil_append, List.flatMap_nil, Array.empty_append] at hgr ⊢
    exact ⟨_, _, hr', hgr.1, hgr.2⟩
  | some b =>
    have holds : ∀ j u, (xs.flatMap enc)[j]? = some u → w.cell? (b.add j) = some u := by
      intro j u hu
      rcases Nat.eq_zero_or_pos n with rfl | hn
      · have hx0 : xs = [] := List.eq_nil_of_length_eq_zero hS.1
        subst hx0
        simp at hu
      · obtain ⟨b', e', -, hc⟩ := hx.2 hn
        cases e'
        exact hc j u hu
    have hr' := run_append_grow (P := P) w t ty e i z ht hi hz b n cap (xs.flatMap enc) hx.1 holds a m c (ys.flatMap enc) hy.1 hnews hg (by omega) (growslice_fits (by omega) hbytes)
    have hgr := grown cap (by omega)
    exact ⟨_, _, hr', hgr.1, hgr.2⟩
theorem wpList_append_N {α : Type} {enc : α → List Value} {d : α} {ops : Array Oper} {rest : List Oper} {o : Oper} {a : Act} {Q : Exit → Act → World → Prop} (hgd : o.guard = none) (s x : Operand) (t : TypeId)
    (ho : o.op = .call { callee := .builtin .append, args := #[s, x], argTypes := #[t, t] })
    (e : TypeId) (size bytes : Nat) (E : ElemT P t e size bytes) (hs : ∀ x, (enc x).length = size)
    (B : Option Addr) (n cap : Nat) (xs : List α) (hv : a.eval s = .slice B n cap) (hS : SlAt enc size d w B n xs) (hB : B = none → n = 0 ∧ cap = 0)
    (A : Option Addr) (m c : Nat) (ys : List α) (hx : a.eval x = .slice A m c) (hr : SlAt enc size d w A m ys) (hm : 0 < m) (hg : cap < n + m) (hsz : n + m ≤ 100000)
    (h : ∀ c' w', w'.ownsRow w.heap.size e size (.slice (some ⟨w.heap.size, 0, none⟩) (n + m) c') (n + m) ((xs ++ ys).flatMap enc) → Below w.heap.size w w' → wpList P ops Q rest (a.put o.dst (.slice (some ⟨w.heap.size, 0, none⟩) (n + m) c')) w') : wpList P ops Q (o :: rest) a w := by
  refine wpList_plain hgd fun K hK => ?_
  obtain ⟨c', w', hrun, h1, h2⟩ := run_append_new (P := P) w t o.type e size bytes E hs B n cap xs hS hB A m c ys hr hm hg hsz
  unfold Oper.wp execOp
  simp only [ho, resolve, invoke, builtin, Sem.run_bind, Sem.run_pure, Result.andThen_ok, List.map_toArray, List.map_cons, List.map_nil, hv, hx, hrun]
  exact hK _ _ (h c' w' h1 h2)
end

end Go.Proofs.YtcbeiadimchknaaGreat

namespace Go.Proofs.YtcbeiadimchknaaGreat
open Go.RowKit
open Go.Sort (grow)
set_option linter.unusedVariables false
set_option linter.unusedSimpArgs false

section
variable {P : Program} {ops : Array Oper} {Q : Exit → Act → World → Prop}
/-- every operation waits for earlier ones alone -/
def waitsBack (ops : Array Oper) : Bool := (List.range ops.size).all fun i => ((ops[i]?).map fun o => o.after.all fun e => !Region.binds .any e || decide (e.on < i)).getD true
theorem ready_all {listed : Array Bool} (hd : waitsBack ops = true) (hs : listed.size = ops.size) (hr : Region.ready .any ops listed = []) : ∀ k, listed.getD k true = true := by
  intro k
  induction k using Nat.strongRecOn with
  | _ k ih =>
    refine Classical.byContradiction fun hn => ?_
    have hk : listed.getD k true = false := by simpa using hn
    have hlt : k < ops.size := by
      refine Classical.byContradiction fun hc => ?_
      rw [Array.getD_eq_getD_getElem?, Array.getElem?_eq_none (by omega)] at hk
      simp at hk
    have hm : k ∈ Region.ready .any ops listed := by
      rw [mem_ready]
      refine ⟨hk, ops[k], Array.getElem?_eq_getElem hlt, fun e he hb => ?_⟩
      unfold waitsBack at hd
      rw [List.all_eq_true] at hd
      have h1 := hd k (by simpa using hlt)
      rw [Array.getElem?_eq_getElem hlt] at h1
      simp only [Option.map_some, Option.getD_some, Array.all_eq_true_iff_forall_mem] at h1
      have h2 := h1 e he
      rw [hb] at h2
      simp only [Bool.not_true, Bool.false_or, decide_eq_true_eq] at h2
      have h3 := ih e.on h2
      rw [Array.getD_eq_getD_getElem?, Array.getElem?_eq_getElem (show e.on < listed.size by omega)] at h3 ⊢
      simpa using h3
    rw [hr] at hm
    cases hm
def left (listed : Array Bool) (n : Nat) : Nat := (List.range n).countP fun k => !listed.getD k true
theorem left_set {listed : Array Bool} {n i : Nat} (hi : i < n) (hs : listed.size = n) (h : listed.getD i true = false) : left (listed.setIfInBounds i true) n < left listed n := by
  subst hs
  unfold left
  have e : ∀ m, m ≤ listed.size → (List.range m).countP (fun k => !(listed.setIfInBounds i true).getD k true) + (if i < m then 1 else 0) = (List.range m).countP (fun k => !listed.getD k true) := fun m => by
    induction m with
    | zero => intro _; simp
    | succ m ih =>
      intro hm
      have h1 := ih (by omega)
      rw [List.range_succ, List.countP_append, List.countP_append]
      by_cases e : m = i
      · subst e
        have e1 : (listed.setIfInBounds m true).getD m true = true := by simp [Array.getD_eq_getD_getElem?, hi]
        rw [if_neg (Nat.lt_irrefl m)] at h1
        rw [if_pos (Nat.lt_succ_self m)]
        simp only [List.countP_singleton, h, e1, Bool.not_true, Bool.not_false, Bool.false_eq_true, if_false, if_true]
        omega
      · have e1 : (listed.setIfInBounds i true).getD m true = listed.getD m true := by
          simp only [Array.getD_eq_getD_getElem?, Array.getElem?_setIfInBounds]
          rw [if_neg (Ne.symm e)]
        simp only [List.countP_singleton, e1]
        by_cases h2 : i < m
        · rw [if_pos h2] at h1
          rw [if_pos (show i < m + 1 by omega)]; omega
        · rw [if_neg h2] at h1
          rw [if_neg (show ¬ i < m + 1 by omega)]; omega
  have := e listed.size (Nat.le_refl _)
  rw [if_pos hi] at this
  omega
theorem getD_set (listed : Array Bool) (n i : Nat) (hi : i < listed.size) : (fun k => (listed.setIfInBounds i true).getD k true) = fun k => k == i || listed.getD k true := by
  funext k
  simp only [Array.getD_eq_getD_getElem?, Array.getElem?_setIfInBounds]
  by_cases e : i = k
  · subst e; simp [hi]
  · rw [if_neg e]
    have : (k == i) = false := by simpa using fun h => e h.symm
    simp [this]
theorem wpAny_inv (J : (Nat → Bool) → Act → World → Prop) (hd : waitsBack ops = true)
    (hstep : ∀ L a w i o, i < ops.size → ops[i]? = some o → L i = false → (∀ e ∈ o.after, Region.binds .any e = true → L e.on = true) → J L a w → wpOp P ops Q i (fun a' w' => J (fun k => k == i || L k) a' w') a w)
    (hdone : ∀ L a w, (∀ k, L k = true) → J L a w → Q .normal a w) :
    ∀ (fuel : Nat) (listed : Array Bool) (a : Act) (w : World), listed.size = ops.size → left listed ops.size ≤ fuel → J (fun k => listed.getD k true) a w → wpAny P .any ops Q fuel listed a w := by
  intro fuel
  induction fuel with
  | zero =>
    intro listed a w hs hl hJ
    have hr : Region.ready .any ops listed = [] := by
      cases h : Region.ready .any ops listed with
      | nil => rfl
      | cons i r =>
        obtain ⟨h1, o, h2, -⟩ := mem_ready.1 (show i ∈ Region.ready .any ops listed by rw [h]; simp)
        have hi : i < ops.size := by
          rcases Array.getElem?_eq_some_iff.1 h2 with ⟨h, -⟩
          exact h
        have := left_set hi hs h1
        omega
    exact ⟨hr, hdone _ _ _ (ready_all hd hs hr) hJ⟩
  | succ fuel ih =>
    intro listed a w hs hl hJ
    refine ⟨fun hr => hdone _ _ _ (ready_all hd hs hr) hJ, fun i hi => ?_⟩
    obtain ⟨h1, o, h2, h3⟩ := mem_ready.1 hi
    have hi' : i < ops.size := by
      rcases Array.getElem?_eq_some_iff.1 h2 with ⟨h, -⟩
      exact h
    refine wpOp_mono (fun a' w' h => ?_) (hstep (fun k => listed.getD k true) a w i o hi' h2 h1 (fun e he hb => ?_) hJ)
    · refine ih _ a' w' (by simpa using hs) (by have := left_set hi' hs h1; omega) ?_
      rw [getD_set listed ops.size i (by omega)]
      exact h
    · have h4 := h3 e he hb
      show listed.getD e.on true = true
      rw [Array.getD_eq_getD_getElem?] at h4 ⊢
      cases h5 : listed[e.on]? with
      | none => rfl
      | some b => rw [h5] at h4; exact h4
/-- THE LAW -/
theorem wp_region_inv {id : Nat} {a : Act} {w : World} (hm : P.follows .mixedOrders = true) (hd : waitsBack ops = true) (J : (Nat → Bool) → Act → World → Prop)
    (h0 : J (fun k => decide (ops.size ≤ k)) a w.drew)
    (hstep : ∀ L a w i o, i < ops.size → ops[i]? = some o → L i = false → (∀ e ∈ o.after, Region.binds .any e = true → L e.on = true) → J L a w → wpOp P ops Q i (fun a' w' => J (fun k => k == i || L k) a' w') a w)
    (hdone : ∀ L a w, (∀ k, L k = true) → J L a w → Q .normal a w) : (Code.region id ops true).wp P Q a w := by
  refine wp_region_any hm (wpAny_inv J hd hstep hdone ops.size _ a _ (by simp) ?_ ?_)
  · unfold left
    exact Nat.le_trans List.countP_le_length (by simp)
  · have e : (fun k => (Array.replicate ops.size false).getD k true) = fun k => decide (ops.size ≤ k) := by
      funext k
      simp only [Array.getD_eq_getD_getElem?, Array.getElem?_replicate]
      by_cases h : k < ops.size
      · rw [if_pos h]; simp; omega
      · rw [if_neg h]; simp; omega
    rw [e]
    exact h0
end

end Go.Proofs.YtcbeiadimchknaaGreat

namespace Go.Proofs.YtcbeiadimchknaaGreat
open Go.RowKit
open Go.Sort (grow)
set_option linter.unusedVariables false
set_option linter.unusedSimpArgs false

structure Lv where
  lg : Int
  lo : Int
  hi : Int
structure Bal where
  wt : Int
  mi : Int
  ld : Int
  of : Int
def encV (x : Lv) : List Value := [.int .i64 x.lg, .int .i64 x.lo, .int .i64 x.hi]
def encA (x : Bal) : List Value := [.int .i64 x.wt, .int .i64 x.mi, .int .i64 x.ld, .int .i64 x.of]
theorem encV_len (x : Lv) : (encV x).length = 3 := rfl
theorem encA_len (x : Bal) : (encA x).length = 4 := rfl
theorem encV_one (x : Lv) : ∀ u ∈ encV x, u.oneCell' = true := by
  intro u hu; simp only [encV, List.mem_cons, List.not_mem_nil, or_false] at hu; rcases hu with rfl | rfl | rfl <;> rfl
theorem encA_one (x : Bal) : ∀ u ∈ encA x, u.oneCell' = true := by
  intro u hu; simp only [encA, List.mem_cons, List.not_mem_nil, or_false] at hu; rcases hu with rfl | rfl | rfl | rfl <;> rfl
def lvAt (xs : List Lv) (k : Nat) : Lv := xs.getD k ⟨0, 0, 0⟩
def baAt (xs : List Bal) (k : Nat) : Bal := xs.getD k ⟨0, 0, 0, 0⟩
def LvsAt (w : World) (A : Option Addr) (n : Nat) (xs : List Lv) : Prop := SlAt encV 3 ⟨0, 0, 0⟩ w A n xs
def BasAt (w : World) (A : Option Addr) (n : Nat) (xs : List Bal) : Prop := SlAt encA 4 ⟨0, 0, 0, 0⟩ w A n xs
section
variable {w w' : World} {A : Option Addr} {n : Nat}
theorem LvsAt.later {xs : List Lv} (h : LvsAt w A n xs) (hb : Below w.heap.size w w') : LvsAt w' A n xs := ⟨h.1, h.2.later hb⟩
theorem BasAt.later {xs : List Bal} (h : BasAt w A n xs) (hb : Below w.heap.size w w') : BasAt w' A n xs := ⟨h.1, h.2.later hb⟩
theorem LvsAt.get {xs : List Lv} (h : LvsAt w A n xs) {k : Nat} (hk : k < n) :
    ∃ b off, A = some ⟨b, off, none⟩ ∧ b < w.heap.size ∧ w.cell? ⟨b, off + k * 3, none⟩ = some (.int .i64 (lvAt xs k).lg) ∧ w.cell? ⟨b, off + k * 3 + 1, none⟩ = some (.int .i64 (lvAt xs k).lo) ∧ w.cell? ⟨b, off + k * 3 + 2, none⟩ = some (.int .i64 (lvAt xs k).hi) := by
  obtain ⟨b, off, e, hb, hc⟩ := h.2 (by omega)
  exact ⟨b, off, e, hb, hc k hk 0 _ rfl, hc k hk 1 _ rfl, hc k hk 2 _ rfl⟩
theorem BasAt.get {xs : List Bal} (h : BasAt w A n xs) {k : Nat} (hk : k < n) :
    ∃ b off, A = some ⟨b, off, none⟩ ∧ b < w.heap.size ∧ w.cell? ⟨b, off + k * 4, none⟩ = some (.int .i64 (baAt xs k).wt) ∧ w.cell? ⟨b, off + k * 4 + 1, none⟩ = some (.int .i64 (baAt xs k).mi) ∧ w.cell? ⟨b, off + k * 4 + 2, none⟩ = some (.int .i64 (baAt xs k).ld) ∧ w.cell? ⟨b, off + k * 4 + 3, none⟩ = some (.int .i64 (baAt xs k).of) := by
  obtain ⟨b, off, e, hb, hc⟩ := h.2 (by omega)
  exact ⟨b, off, e, hb, hc k hk 0 _ rfl, hc k hk 1 _ rfl, hc k hk 2 _ rfl, hc k hk 3 _ rfl⟩
end
/-- a setting: the short arms, the leak, all short arms multiplied -/
structure St3 where
  s0 : Int
  s1 : Int
  s2 : Int
  lk : Int
  bw : Int
def St3.arm (s : St3) (i : Nat) : Int := match i with | 0 => s.s0 | 1 => s.s1 | _ => s.s2
/-- one more short arm -/
def St3.put (s : St3) (i : Nat) (n : Int) : St3 := match i with | 0 => { s with s0 := n, bw := s.bw * n } | 1 => { s with s1 := n, bw := s.bw * n } | _ => { s with s2 := n, bw := s.bw * n }
theorem St3.put_bw {s : St3} {i : Nat} {n : Int} : (s.put i n).bw = s.bw * n := by unfold St3.put; match i with | 0 => rfl | 1 => rfl | _ + 2 => rfl
theorem St3.put_lk {s : St3} {i : Nat} {n : Int} : (s.put i n).lk = s.lk := by unfold St3.put; match i with | 0 => rfl | 1 => rfl | _ + 2 => rfl
/-- the numbers from a to b -/
def ups (a b : Int) : List Int := (List.range (b - a + 1).toNat).map fun (j : Nat) => a + (j : Int)
theorem ups_len {a b : Int} : (ups a b).length = (b - a + 1).toNat := by simp [ups]
theorem ups_get {a b : Int} {j : Nat} (h : a + j ≤ b) : (ups a b)[j]? = some (a + j) := by
  unfold ups
  rw [List.getElem?_map, List.getElem?_range (by omega)]; rfl
theorem ups_mem {a b x : Int} : x ∈ ups a b ↔ a ≤ x ∧ x ≤ b := by
  unfold ups
  rw [List.mem_map]
  constructor
  · rintro ⟨j, hj, rfl⟩
    have := List.mem_range.1 hj
    omega
  · intro h
    refine ⟨(x - a).toNat, List.mem_range.2 (by omega), ?_⟩
    show a + (((x - a).toNat : Nat) : Int) = x
    omega
/-- all settings: those of which the first i short arms are known, r are left -/
def stS (lv : List Lv) (l0 l1 : Int) : Nat → Nat → St3 → List St3
  | _, 0, s => (ups l0 l1).map fun k => { s with lk := k }
  | i, r + 1, s => (ups (lvAt lv i).lo (lvAt lv i).hi).flatMap fun n => stS lv l0 l1 (i + 1) r (s.put i n)
/-- the weight and the water that is left -/
def pl3 (wa lk wt mi : Int) : Int := wt + (if 0 < wa - mi * lk then wa - mi * lk else 0)
def df3 (wa ab : Int) (s : St3) (b : Bal) : Int := pl3 wa s.lk b.wt b.mi * ab - b.ld * s.bw
def ab3 (x : Int) : Int := if x < 0 then -x else x
def rt3 (wa ab : Int) (s : St3) (b : Bal) : Bool := decide (ab3 (df3 wa ab s b) ≤ b.of * s.bw)
/-- how many of the first k balances are not right -/
def wr3 (wa ab : Int) (bl : List Bal) (s : St3) (k : Nat) : Nat := ((List.range k).filter fun j => !rt3 wa ab s (baAt bl j)).length
theorem wr3_succ {wa ab : Int} {bl : List Bal} {s : St3} {k : Nat} : wr3 wa ab bl s (k + 1) = wr3 wa ab bl s k + (bif rt3 wa ab s (baAt bl k) then 0 else 1) := by
  unfold wr3
  rw [List.range_succ, List.filter_append, List.length_append]
  cases h : rt3 wa ab s (baAt bl k) <;> simp [h]
theorem wr3_le {wa ab : Int} {bl : List Bal} {s : St3} {k : Nat} : wr3 wa ab bl s k ≤ k := by
  unfold wr3
  exact Nat.le_trans (List.length_filter_le _ _) (by simp)
/-- what all yields -/
def alS (lv : List Lv) (l0 l1 wa ab : Int) (bl : List Bal) : List (St3 × Nat) := (stS lv l0 l1 0 lv.length ⟨0, 0, 0, 0, 1⟩).map fun s => (s, wr3 wa ab bl s bl.length)
/-- what truths yields -/
def trS (lv : List Lv) (l0 l1 wa ab wr : Int) (bl : List Bal) : List St3 := ((alS lv l0 l1 wa ab bl).filter fun x => decide ((x.2 : Int) ≤ wr)).map fun x => x.1
/-- the machine at work, in memory -/
structure MemM (gm : Nat) (t : TypeId) (Al : Option Addr) (nl cl : Nat) (wa l0 l1 : Int) (Ab : Option Addr) (nb cb : Nat) (wr ab : Int) (lv : List Lv) (bl : List Bal) (W : World) : Prop where
  blk : Blk W gm t #[.slice Al nl cl, .int .i64 wa, .int .i64 l0, .int .i64 l1, .slice Ab nb cb, .int .i64 wr, .int .i64 ab]
  hl : LvsAt W Al nl lv
  hb : BasAt W Ab nb bl
theorem MemM.later {gm : Nat} {t : TypeId} {Al : Option Addr} {nl cl : Nat} {wa l0 l1 : Int} {Ab : Option Addr} {nb cb : Nat} {wr ab : Int} {lv : List Lv} {bl : List Bal} {W W' : World} (h : MemM gm t Al nl cl wa l0 l1 Ab nb cb wr ab lv bl W) (hb : Below W.heap.size W W') : MemM gm t Al nl cl wa l0 l1 Ab nb cb wr ab lv bl W' :=
  ⟨h.blk.below hb h.blk.lt, h.hl.later hb, h.hb.later hb⟩
/-- what is valid -/
structure OkM (nl nb : Nat) (wa l0 l1 wr ab : Int) (lv : List Lv) (bl : List Bal) : Prop where
  nl3 : nl ≤ 3
  nb6 : nb ≤ 6
  ll : lv.length = nl
  bb : bl.length = nb
  wa : 0 ≤ wa ∧ wa ≤ 9999
  lk : 0 ≤ l0 ∧ l0 ≤ l1 ∧ l1 ≤ 20
  wr : 0 ≤ wr ∧ wr ≤ 6
  ab : 1 ≤ ab ∧ ab ≤ 1000000000
  lv : ∀ k, k < nl → 1 ≤ (lvAt lv k).lo ∧ (lvAt lv k).lo ≤ (lvAt lv k).hi ∧ (lvAt lv k).hi ≤ 1000
  ba : ∀ k, k < nb → (0 ≤ (baAt bl k).wt ∧ (baAt bl k).wt ≤ 9999) ∧ (0 ≤ (baAt bl k).mi ∧ (baAt bl k).mi ≤ 99) ∧ (0 ≤ (baAt bl k).ld ∧ (baAt bl k).ld ≤ 999999999) ∧ (0 ≤ (baAt bl k).of ∧ (baAt bl k).of ≤ 999999999)
theorem pl3_bd {wa lk wt mi : Int} (h1 : 0 ≤ wa ∧ wa ≤ 9999) (h2 : 0 ≤ lk ∧ lk ≤ 20) (h3 : 0 ≤ wt ∧ wt ≤ 9999) (h4 : 0 ≤ mi ∧ mi ≤ 99) : (0 ≤ mi * lk ∧ mi * lk ≤ 1980) ∧ 0 ≤ pl3 wa lk wt mi ∧ pl3 wa lk wt mi ≤ 19998 := by
  have a1 : 0 ≤ mi * lk := Int.mul_nonneg h4.1 h2.1
  have a2 : mi * lk ≤ 99 * 20 := Int.mul_le_mul h4.2 h2.2 h2.1 (by omega)
  refine ⟨⟨a1, by omega⟩, ?_⟩
  unfold pl3
  split <;> omega

end Go.Proofs.YtcbeiadimchknaaGreat
