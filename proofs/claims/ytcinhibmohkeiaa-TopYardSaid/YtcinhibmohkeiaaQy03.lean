/- A number within bounds; Chapter 05 (checks), data: comparisons, edges, a table of differences; what closure reckons, step by step; The plain law of closure (layer 5): where potentials satisfy all edges, the table lies between the differences and the edges. -/
import Derived.Test.YtcinhibmohkeiaaQy02
import Derived.Test.YtcinhibmohkeiaaQy01
namespace Go.Proofs.Ytcinhibmohkeiaa
open Go.RowKit
open Go.Sort (grow)
set_option linter.unusedVariables false
set_option linter.unusedSimpArgs false

def wn (n a b : Int) : Bool := decide (a ≤ n) && decide (n ≤ b)
theorem wn_true {x a b : Int} : wn x a b = true ↔ a ≤ x ∧ x ≤ b := by simp [wn]
theorem own_at {w : World} {base : Nat} {e : TypeId} {g n c k : Nat} {xs : List Int} (h : w.ownsRow base e 1 (.slice (some ⟨g, 0, none⟩) n c) n (xs.flatMap encI)) (hl : xs.length = n) (hk : k < n) :
    w.cell? ⟨g, k, none⟩ = some (.int .i64 (iAt xs k)) := by
  have h1 := (h.cellAt (k * 1 + 0) (by omega)).trans (flat_get (d := (0 : Int)) encI_len xs k 0 (by omega) (by omega))
  simpa [encI, iAt] using h1

end Go.Proofs.Ytcinhibmohkeiaa

namespace Go.Proofs.Ytcinhibmohkeiaa
open Go.RowKit
open Go.Sort (grow)
set_option linter.unusedVariables false
set_option linter.unusedSimpArgs false

structure Cm5 where
  a : Int
  b : Int
  lo : Int
  hi : Int
def encC5 (c : Cm5) : List Value := [.int .i64 c.a, .int .i64 c.b, .int .i64 c.lo, .int .i64 c.hi]
theorem encC5_len (x : Cm5) : (encC5 x).length = 4 := rfl
def cmAt (cs : List Cm5) (k : Nat) : Cm5 := cs.getD k ⟨0, 0, 0, 0⟩
def CmsAt (w : World) (A : Option Addr) (n : Nat) (cs : List Cm5) : Prop := SlAt encC5 4 ⟨0, 0, 0, 0⟩ w A n cs
structure Ed5 where
  fr : Int
  to : Int
  by_ : Int
  most : Int
def encE5 (e : Ed5) : List Value := [.int .i64 e.fr, .int .i64 e.to, .int .i64 e.by_, .int .i64 e.most]
theorem encE5_len (x : Ed5) : (encE5 x).length = 4 := rfl
def edAt (es : List Ed5) (k : Nat) : Ed5 := es.getD k ⟨0, 0, 0, 0⟩
def EdsAt (w : World) (A : Option Addr) (n : Nat) (es : List Ed5) : Prop := SlAt encE5 4 ⟨0, 0, 0, 0⟩ w A n es
theorem EdsAt.later {w w' : World} {A : Option Addr} {n : Nat} {es : List Ed5} (h : EdsAt w A n es) (hb : Below w.heap.size w w') : EdsAt w' A n es := ⟨h.1, h.2.later hb⟩
theorem CmsAt.later {w w' : World} {A : Option Addr} {n : Nat} {cs : List Cm5} (h : CmsAt w A n cs) (hb : Below w.heap.size w w') : CmsAt w' A n cs := ⟨h.1, h.2.later hb⟩
theorem EdsAt.get {w : World} {A : Option Addr} {n : Nat} {es : List Ed5} (h : EdsAt w A n es) {k : Nat} (hk : k < n) :
    ∃ b off, A = some ⟨b, off, none⟩ ∧ b < w.heap.size ∧ w.cell? ⟨b, off + k * 4, none⟩ = some (.int .i64 (edAt es k).fr) ∧ w.cell? ⟨b, off + k * 4 + 1, none⟩ = some (.int .i64 (edAt es k).to) ∧ w.cell? ⟨b, off + k * 4 + 2, none⟩ = some (.int .i64 (edAt es k).by_) ∧ w.cell? ⟨b, off + k * 4 + 3, none⟩ = some (.int .i64 (edAt es k).most) := by
  obtain ⟨b, off, e, hb, hc⟩ := h.2 (by omega)
  exact ⟨b, off, e, hb, hc k hk 0 _ rfl, hc k hk 1 _ rfl, hc k hk 2 _ rfl, hc k hk 3 _ rfl⟩
theorem CmsAt.get {w : World} {A : Option Addr} {n : Nat} {cs : List Cm5} (h : CmsAt w A n cs) {k : Nat} (hk : k < n) :
    ∃ b off, A = some ⟨b, off, none⟩ ∧ b < w.heap.size ∧ w.cell? ⟨b, off + k * 4, none⟩ = some (.int .i64 (cmAt cs k).a) ∧ w.cell? ⟨b, off + k * 4 + 1, none⟩ = some (.int .i64 (cmAt cs k).b) ∧ w.cell? ⟨b, off + k * 4 + 2, none⟩ = some (.int .i64 (cmAt cs k).lo) ∧ w.cell? ⟨b, off + k * 4 + 3, none⟩ = some (.int .i64 (cmAt cs k).hi) := by
  obtain ⟨b, off, e, hb, hc⟩ := h.2 (by omega)
  exact ⟨b, off, e, hb, hc k hk 0 _ rfl, hc k hk 1 _ rfl, hc k hk 2 _ rfl, hc k hk 3 _ rfl⟩
/-- a table as a list of 36 numbers -/
def tbV (T : List Int) : Array Value := (T.map (Value.int .i64)).toArray
theorem tbV_get {T : List Int} {p : Nat} (h : p < T.length) : (tbV T)[p]? = some (.int .i64 (iAt T p)) := by
  unfold tbV iAt
  rw [List.getElem?_toArray, List.getElem?_map, List.getD_eq_getElem?_getD, List.getElem?_eq_getElem h]
  rfl
theorem tbV_set {T : List Int} {p : Nat} {v : Int} : (tbV T).setIfInBounds p (.int .i64 v) = tbV (T.set p v) := by
  unfold tbV
  rw [List.setIfInBounds_toArray, List.map_set]
/-- so many turns -/
def itr {α : Type} (f : α → Nat → α) (z : α) : Nat → α
  | 0 => z
  | k + 1 => f (itr f z k) k
theorem itr_len {f : List Int → Nat → List Int} {z : List Int} (hf : ∀ T k, (f T k).length = T.length) : ∀ k, (itr f z k).length = z.length
  | 0 => rfl
  | k + 1 => by
    show (f (itr f z k) k).length = z.length
    rw [hf, itr_len hf k]
def far5 : Int := 1073741824
def in1 (a : Nat) (T : List Int) (b : Nat) : List Int := if a = b then T else T.set (a * 6 + b) far5
def in2 (T : List Int) (a : Nat) : List Int := itr (in1 a) T 6
def in3 : List Int := itr in2 (List.replicate 36 0) 6
theorem in1_len {a : Nat} (T : List Int) (b : Nat) : (in1 a T b).length = T.length := by unfold in1; split <;> simp
theorem in2_len (T : List Int) (a : Nat) : (in2 T a).length = T.length := itr_len (fun T k => in1_len T k) 6
def nd5 (m : Nat) (x : Int) : Nat := if x = -1 then m else x.toNat
def ed1 (m : Nat) (es : List Ed5) (T : List Int) (k : Nat) : List Int := T.set (nd5 m (edAt es k).fr * 6 + nd5 m (edAt es k).to) (min (iAt T (nd5 m (edAt es k).fr * 6 + nd5 m (edAt es k).to)) (edAt es k).most)
theorem ed1_len {m : Nat} {es : List Ed5} (T : List Int) (k : Nat) : (ed1 m es T k).length = T.length := by unfold ed1; simp
def fw1 (y a : Nat) (T : List Int) (b : Nat) : List Int :=
  if iAt T (a * 6 + y) < far5 ∧ iAt T (y * 6 + b) < far5 then T.set (a * 6 + b) (min (iAt T (a * 6 + b)) (IntKind.i64.wrap (iAt T (a * 6 + y) + iAt T (y * 6 + b)))) else T
def fw2 (m y : Nat) (T : List Int) (a : Nat) : List Int := itr (fw1 y a) T (m + 1)
def fw3 (m : Nat) (T : List Int) (y : Nat) : List Int := itr (fw2 m y) T (m + 1)
theorem fw1_len {y a : Nat} (T : List Int) (b : Nat) : (fw1 y a T b).length = T.length := by unfold fw1; split <;> simp
theorem fw2_len {m y : Nat} (T : List Int) (a : Nat) : (fw2 m y T a).length = T.length := itr_len (fun T k => fw1_len T k) _
theorem fw3_len {m : Nat} (T : List Int) (y : Nat) : (fw3 m T y).length = T.length := itr_len (fun T k => fw2_len T k) _
/-- the table that closure finds -/
def clT (m : Nat) (es : List Ed5) : List Int := itr (fw3 m) (itr (ed1 m es) in3 es.length) (m + 1)
/-- whether no number of the diagonal is below 0 -/
def clB (m : Nat) (T : List Int) : Bool := allN (m + 1) fun a => !decide (iAt T (a * 6 + a) < 0)
theorem in3_len : in3.length = 36 := (itr_len (fun T k => in2_len T k) 6).trans (by simp)
theorem clT_len {m : Nat} {es : List Ed5} : (clT m es).length = 36 := by
  unfold clT
  rw [itr_len (fun T k => fw3_len T k), itr_len (fun T k => ed1_len T k), in3_len]
/-- edges between nodes -/
def EdOk (m : Nat) (es : List Ed5) : Prop := ∀ k, k < es.length → (-1 ≤ (edAt es k).fr ∧ (edAt es k).fr < m) ∧ (-1 ≤ (edAt es k).to ∧ (edAt es k).to < m)

end Go.Proofs.Ytcinhibmohkeiaa

namespace Go.Proofs.Ytcinhibmohkeiaa
open Go.RowKit
open Go.Sort (grow)
set_option linter.unusedVariables false
set_option linter.unusedSimpArgs false

theorem iAt_set {T : List Int} {p r : Nat} {v : Int} (hp : p < T.length) : iAt (T.set p v) r = if r = p then v else iAt T r := by
  unfold iAt
  rw [List.getD_eq_getElem?_getD, List.getD_eq_getElem?_getD, List.getElem?_set]
  by_cases h : p = r
  · subst h; simp [hp]
  · rw [if_neg h, if_neg (fun e => h e.symm)]
/-- a table between the differences of potentials and far -/
structure Pot (m : Nat) (x : Nat → Int) (T : List Int) : Prop where
  len : T.length = 36
  at_ : ∀ p q, p ≤ m → q ≤ m → x q - x p ≤ iAt T (p * 6 + q) ∧ iAt T (p * 6 + q) ≤ far5
theorem in3_at : ∀ p, p < 6 → ∀ q, q < 6 → iAt in3 (p * 6 + q) = if p = q then 0 else far5 := by decide +kernel
section
variable {m : Nat} {x : Nat → Int} (hm : m ≤ 5) (hx : ∀ p, p ≤ m → -1000 ≤ x p ∧ x p ≤ 1000)
include hm hx
theorem pot_in3 : Pot m x in3 := ⟨in3_len, fun p q hp hq => by
  rw [in3_at p (by omega) q (by omega)]
  have h1 := hx p hp
  have h2 := hx q hq
  unfold far5
  by_cases h : p = q
  · subst h; rw [if_pos rfl]; omega
  · rw [if_neg h]; omega⟩
omit hx in
theorem pot_set {T : List Int} (h : Pot m x T) {a b : Nat} (ha : a ≤ m) (hb : b ≤ m) {v : Int} (hv : x b - x a ≤ v) : Pot m x (T.set (a * 6 + b) (min (iAt T (a * 6 + b)) v)) := ⟨by rw [List.length_set]; exact h.len, fun p q hp hq => by
  rw [iAt_set (by rw [h.len]; omega)]
  have h1 := h.at_ p q hp hq
  by_cases e : p * 6 + q = a * 6 + b
  · obtain rfl : p = a := by omega
    obtain rfl : q = b := by omega
    rw [if_pos rfl]
    omega
  · rw [if_neg e]; exact h1⟩
theorem pot_fw1 {T : List Int} (h : Pot m x T) {y a b : Nat} (hy : y ≤ m) (ha : a ≤ m) (hb : b ≤ m) : Pot m x (fw1 y a T b) := by
  unfold fw1
  split
  · rename_i hc
    have h1 := h.at_ a y ha hy
    have h2 := h.at_ y b hy hb
    have k1 := hx a ha
    have k2 := hx y hy
    have k3 := hx b hb
    unfold far5 at h1 h2 hc
    rw [IntWalk.i64_in _ (by omega)]
    exact pot_set hm h ha hb (by omega)
  · exact h
theorem pot_fw2 {T : List Int} (h : Pot m x T) {y a : Nat} (hy : y ≤ m) (ha : a ≤ m) : Pot m x (fw2 m y T a) := by
  unfold fw2
  have : ∀ k, k ≤ m + 1 → Pot m x (itr (fw1 y a) T k) := fun k => by
    induction k with
    | zero => intro _; exact h
    | succ k ih => intro hk; exact pot_fw1 hm hx (ih (by omega)) hy ha (by omega)
  exact this _ (Nat.le_refl _)
theorem pot_fw3 {T : List Int} (h : Pot m x T) {y : Nat} (hy : y ≤ m) : Pot m x (fw3 m T y) := by
  unfold fw3
  have : ∀ k, k ≤ m + 1 → Pot m x (itr (fw2 m y) T k) := fun k => by
    induction k with
    | zero => intro _; exact h
    | succ k ih => intro hk; exact pot_fw2 hm hx (ih (by omega)) hy (by omega)
  exact this _ (Nat.le_refl _)
end
theorem nd5_le {m : Nat} {f : Int} (h : -1 ≤ f ∧ f < m) : nd5 m f ≤ m := by unfold nd5; split <;> omega
/-- potentials that satisfy all edges -/
def Sat5 (m : Nat) (x : Nat → Int) (es : List Ed5) : Prop := ∀ k, k < es.length → x (nd5 m (edAt es k).to) - x (nd5 m (edAt es k).fr) ≤ (edAt es k).most
theorem pot_clT {m : Nat} {x : Nat → Int} {es : List Ed5} (hm : m ≤ 5) (hx : ∀ p, p ≤ m → -1000 ≤ x p ∧ x p ≤ 1000) (hok : EdOk m es) (hs : Sat5 m x es) : Pot m x (clT m es) := by
  have h1 : ∀ k, k ≤ es.length → Pot m x (itr (ed1 m es) in3 k) := fun k => by
    induction k with
    | zero => intro _; exact pot_in3 hm hx
    | succ k ih =>
      intro hk
      have := hok k (by omega)
      exact pot_set hm (ih (by omega)) (nd5_le this.1) (nd5_le this.2) (hs k (by omega))
  have h2 : ∀ k, k ≤ m + 1 → Pot m x (itr (fw3 m) (itr (ed1 m es) in3 es.length) k) := fun k => by
    induction k with
    | zero => intro _; exact h1 _ (Nat.le_refl _)
    | succ k ih => intro hk; exact pot_fw3 hm hx (ih (by omega)) (by omega)
  exact h2 _ (Nat.le_refl _)
theorem clB_true {m : Nat} {x : Nat → Int} {es : List Ed5} (hm : m ≤ 5) (hx : ∀ p, p ≤ m → -1000 ≤ x p ∧ x p ≤ 1000) (hok : EdOk m es) (hs : Sat5 m x es) : clB m (clT m es) = true := by
  refine allN_iff.2 fun a ha => ?_
  have := ((pot_clT hm hx hok hs).at_ a a (by omega) (by omega)).1
  simp only [Bool.not_eq_true', decide_eq_false_iff_not]
  omega
/-- entries only fall -/
theorem fall_set {T : List Int} {p r : Nat} {v : Int} (hp : p < T.length) : iAt (T.set p (min (iAt T p) v)) r ≤ iAt T r := by
  rw [iAt_set hp]
  by_cases h : r = p
  · subst h; rw [if_pos rfl]; omega
  · rw [if_neg h]; exact Int.le_refl _
theorem fall_fw1 {T : List Int} {y a b r : Nat} (h : T.length = 36) (ha : a < 6) (hb : b < 6) : iAt (fw1 y a T b) r ≤ iAt T r := by
  unfold fw1
  split
  · exact fall_set (by rw [h]; omega)
  · exact Int.le_refl _
theorem fall_itr {f : List Int → Nat → List Int} {T : List Int} {r n : Nat} (hl : ∀ T k, (f T k).length = T.length) (h : T.length = 36) (hf : ∀ T k, T.length = 36 → k < n → iAt (f T k) r ≤ iAt T r) : ∀ k, k ≤ n → iAt (itr f T k) r ≤ iAt T r
  | 0, _ => Int.le_refl _
  | k + 1, hk => Int.le_trans (hf _ k (by rw [itr_len hl]; exact h) (by omega)) (fall_itr hl h hf k (by omega))
theorem clT_edge {m : Nat} {es : List Ed5} (hm : m ≤ 5) (hok : EdOk m es) {k : Nat} (hk : k < es.length) : iAt (clT m es) (nd5 m (edAt es k).fr * 6 + nd5 m (edAt es k).to) ≤ (edAt es k).most := by
  have hl : ∀ k, (itr (ed1 m es) in3 k).length = 36 := fun k => by rw [itr_len (fun T k => ed1_len T k), in3_len]
  have hnd : ∀ j, j < es.length → nd5 m (edAt es j).fr ≤ m ∧ nd5 m (edAt es j).to ≤ m := fun j hj => ⟨nd5_le (hok j hj).1, nd5_le (hok j hj).2⟩
  have hb := hnd k hk
  have h1 : ∀ j, k < j → j ≤ es.length → iAt (itr (ed1 m es) in3 j) (nd5 m (edAt es k).fr * 6 + nd5 m (edAt es k).to) ≤ (edAt es k).most := fun j => by
    induction j with
    | zero => intro h; omega
    | succ j ih =>
      intro hkj hj
      show iAt (ed1 m es (itr (ed1 m es) in3 j) j) _ ≤ _
      by_cases e : k = j
      · subst e
        have hlk := hl k
        generalize itr (ed1 m es) in3 k = T at hlk
        unfold ed1
        rw [iAt_set (by rw [hlk]; omega), if_pos rfl]
        omega
      · have := hnd j (by omega)
        exact Int.le_trans (fall_set (by rw [hl]; omega)) (ih (by omega) (by omega))
  refine Int.le_trans ?_ (h1 es.length hk (Nat.le_refl _))
  exact fall_itr (n := m + 1) (fun T k => fw3_len T k) (hl _) (fun T y hT hy => fall_itr (n := m + 1) (fun T k => fw2_len T k) hT (fun T a hT ha => fall_itr (n := m + 1) (fun T k => fw1_len T k) hT (fun T b hT hb => fall_fw1 hT (by omega) (by omega)) _ (Nat.le_refl _)) _ (Nat.le_refl _)) _ (Nat.le_refl _)

end Go.Proofs.Ytcinhibmohkeiaa
