/- A number within bounds; Proving machines (layer 3): levers, balances, settings in plain Lean, and in memory; Slices of slices of numbers: read as lists of lists; made by the call itself. -/
import Derived.Test.YtglpgcgidkdkiaaQc02
namespace Go.Proofs.Ytglpgcgidkdkiaa
open Go.RowKit
open Go.Sort (grow)
set_option linter.unusedVariables false
set_option linter.unusedSimpArgs false

def wn (n a b : Int) : Bool := decide (a ≤ n) && decide (n ≤ b)
theorem wn_true {x a b : Int} : wn x a b = true ↔ a ≤ x ∧ x ≤ b := by simp [wn]
theorem own_at {w : World} {base : Nat} {e : TypeId} {g n c k : Nat} {xs : List Int} (h : w.ownsRow base e 1 (.slice (some ⟨g, 0, none⟩) n c) n (xs.flatMap encI)) (hl : xs.length = n) (hk : k < n) :
    w.cell? ⟨g, k, none⟩ = some (.int .i64 (iAt xs k)) := by
  have h1 := (h.cellAt (k * 1 + 0) (by omega)).trans (flat_get (d := (0 : Int)) encI_len xs k 0 (by omega) (by omega))
  simpa [encI, iAt] using h1

end Go.Proofs.Ytglpgcgidkdkiaa

namespace Go.Proofs.Ytglpgcgidkdkiaa
open Go.RowKit
open Go.Sort (grow)
set_option linter.unusedVariables false
set_option linter.unusedSimpArgs false

structure Lv where
  lg : Int
  lo : Int
  hi : Int
structure Bal where
  wt : Int
  mi : Int
  ld : Int
  of : Int
def encV (x : Lv) : List Value := [.int .i64 x.lg, .int .i64 x.lo, .int .i64 x.hi]
def encA (x : Bal) : List Value := [.int .i64 x.wt, .int .i64 x.mi, .int .i64 x.ld, .int .i64 x.of]
theorem encV_len (x : Lv) : (encV x).length = 3 := rfl
theorem encA_len (x : Bal) : (encA x).length = 4 := rfl
theorem encV_one (x : Lv) : ∀ u ∈ encV x, u.oneCell' = true := by
  intro u hu; simp only [encV, List.mem_cons, List.not_mem_nil, or_false] at hu; rcases hu with rfl | rfl | rfl <;> rfl
theorem encA_one (x : Bal) : ∀ u ∈ encA x, u.oneCell' = true := by
  intro u hu; simp only [encA, List.mem_cons, List.not_mem_nil, or_false] at hu; rcases hu with rfl | rfl | rfl | rfl <;> rfl
def lvAt (xs : List Lv) (k : Nat) : Lv := xs.getD k ⟨0, 0, 0⟩
def baAt (xs : List Bal) (k : Nat) : Bal := xs.getD k ⟨0, 0, 0, 0⟩
def LvsAt (w : World) (A : Option Addr) (n : Nat) (xs : List Lv) : Prop := SlAt encV 3 ⟨0, 0, 0⟩ w A n xs
def BasAt (w : World) (A : Option Addr) (n : Nat) (xs : List Bal) : Prop := SlAt encA 4 ⟨0, 0, 0, 0⟩ w A n xs
section
variable {w w' : World} {A : Option Addr} {n : Nat}
theorem LvsAt.later {xs : List Lv} (h : LvsAt w A n xs) (hb : Below w.heap.size w w') : LvsAt w' A n xs := ⟨h.1, h.2.later hb⟩
theorem BasAt.later {xs : List Bal} (h : BasAt w A n xs) (hb : Below w.heap.size w w') : BasAt w' A n xs := ⟨h.1, h.2.later hb⟩
theorem LvsAt.get {xs : List Lv} (h : LvsAt w A n xs) {k : Nat} (hk : k < n) :
    ∃ b off, A = some ⟨b, off, none⟩ ∧ b < w.heap.size ∧ w.cell? ⟨b, off + k * 3, none⟩ = some (.int .i64 (lvAt xs k).lg) ∧ w.cell? ⟨b, off + k * 3 + 1, none⟩ = some (.int .i64 (lvAt xs k).lo) ∧ w.cell? ⟨b, off + k * 3 + 2, none⟩ = some (.int .i64 (lvAt xs k).hi) := by
  obtain ⟨b, off, e, hb, hc⟩ := h.2 (by omega)
  exact ⟨b, off, e, hb, hc k hk 0 _ rfl, hc k hk 1 _ rfl, hc k hk 2 _ rfl⟩
theorem BasAt.get {xs : List Bal} (h : BasAt w A n xs) {k : Nat} (hk : k < n) :
    ∃ b off, A = some ⟨b, off, none⟩ ∧ b < w.heap.size ∧ w.cell? ⟨b, off + k * 4, none⟩ = some (.int .i64 (baAt xs k).wt) ∧ w.cell? ⟨b, off + k * 4 + 1, none⟩ = some (.int .i64 (baAt xs k).mi) ∧ w.cell? ⟨b, off + k * 4 + 2, none⟩ = some (.int .i64 (baAt xs k).ld) ∧ w.cell? ⟨b, off + k * 4 + 3, none⟩ = some (.int .i64 (baAt xs k).of) := by
  obtain ⟨b, off, e, hb, hc⟩ := h.2 (by omega)
  exact ⟨b, off, e, hb, hc k hk 0 _ rfl, hc k hk 1 _ rfl, hc k hk 2 _ rfl, hc k hk 3 _ rfl⟩
end
/-- a setting: the short arms, the leak, all short arms multiplied -/
structure St3 where
  s0 : Int
  s1 : Int
  s2 : Int
  lk : Int
  bw : Int
def St3.arm (s : St3) (i : Nat) : Int := match i with | 0 => s.s0 | 1 => s.s1 | _ => s.s2
/-- one more short arm -/
def St3.put (s : St3) (i : Nat) (n : Int) : St3 := match i with | 0 => { s with s0 := n, bw := s.bw * n } | 1 => { s with s1 := n, bw := s.bw * n } | _ => { s with s2 := n, bw := s.bw * n }
theorem St3.put_bw {s : St3} {i : Nat} {n : Int} : (s.put i n).bw = s.bw * n := by unfold St3.put; match i with | 0 => rfl | 1 => rfl | _ + 2 => rfl
theorem St3.put_lk {s : St3} {i : Nat} {n : Int} : (s.put i n).lk = s.lk := by unfold St3.put; match i with | 0 => rfl | 1 => rfl | _ + 2 => rfl
/-- the numbers from a to b -/
def ups (a b : Int) : List Int := (List.range (b - a + 1).toNat).map fun (j : Nat) => a + (j : Int)
theorem ups_len {a b : Int} : (ups a b).length = (b - a + 1).toNat := by simp [ups]
theorem ups_get {a b : Int} {j : Nat} (h : a + j ≤ b) : (ups a b)[j]? = some (a + j) := by
  unfold ups
  rw [List.getElem?_map, List.getElem?_range (by omega)]; rfl
theorem ups_mem {a b x : Int} : x ∈ ups a b ↔ a ≤ x ∧ x ≤ b := by
  unfold ups
  rw [List.mem_map]
  constructor
  · rintro ⟨j, hj, rfl⟩
    have := List.mem_range.1 hj
    omega
  · intro h
    refine ⟨(x - a).toNat, List.mem_range.2 (by omega), ?_⟩
    show a + (((x - a).toNat : Nat) : Int) = x
    omega
/-- all settings: those of which the first i short arms are known, r are left -/
def stS (lv : List Lv) (l0 l1 : Int) : Nat → Nat → St3 → List St3
  | _, 0, s => (ups l0 l1).map fun k => { s with lk := k }
  | i, r + 1, s => (ups (lvAt lv i).lo (lvAt lv i).hi).flatMap fun n => stS lv l0 l1 (i + 1) r (s.put i n)
/-- the weight and the water that is left -/
def pl3 (wa lk wt mi : Int) : Int := wt + (if 0 < wa - mi * lk then wa - mi * lk else 0)
def df3 (wa ab : Int) (s : St3) (b : Bal) : Int := pl3 wa s.lk b.wt b.mi * ab - b.ld * s.bw
def ab3 (x : Int) : Int := if x < 0 then -x else x
def rt3 (wa ab : Int) (s : St3) (b : Bal) : Bool := decide (ab3 (df3 wa ab s b) ≤ b.of * s.bw)
/-- how many of the first k balances are not right -/
def wr3 (wa ab : Int) (bl : List Bal) (s : St3) (k : Nat) : Nat := ((List.range k).filter fun j => !rt3 wa ab s (baAt bl j)).length
theorem wr3_succ {wa ab : Int} {bl : List Bal} {s : St3} {k : Nat} : wr3 wa ab bl s (k + 1) = wr3 wa ab bl s k + (bif rt3 wa ab s (baAt bl k) then 0 else 1) := by
  unfold wr3
  rw [List.range_succ, List.filter_append, List.length_append]
  cases h : rt3 wa ab s (baAt bl k) <;> simp [h]
theorem wr3_le {wa ab : Int} {bl : List Bal} {s : St3} {k : Nat} : wr3 wa ab bl s k ≤ k := by
  unfold wr3
  exact Nat.le_trans (List.length_filter_le _ _) (by simp)
/-- what all yields -/
def alS (lv : List Lv) (l0 l1 wa ab : Int) (bl : List Bal) : List (St3 × Nat) := (stS lv l0 l1 0 lv.length ⟨0, 0, 0, 0, 1⟩).map fun s => (s, wr3 wa ab bl s bl.length)
/-- what truths yields -/
def trS (lv : List Lv) (l0 l1 wa ab wr : Int) (bl : List Bal) : List St3 := ((alS lv l0 l1 wa ab bl).filter fun x => decide ((x.2 : Int) ≤ wr)).map fun x => x.1
/-- the machine at work, in memory -/
structure MemM (gm : Nat) (t : TypeId) (Al : Option Addr) (nl cl : Nat) (wa l0 l1 : Int) (Ab : Option Addr) (nb cb : Nat) (wr ab : Int) (lv : List Lv) (bl : List Bal) (W : World) : Prop where
  blk : Blk W gm t #[.slice Al nl cl, .int .i64 wa, .int .i64 l0, .int .i64 l1, .slice Ab nb cb, .int .i64 wr, .int .i64 ab]
  hl : LvsAt W Al nl lv
  hb : BasAt W Ab nb bl
theorem MemM.later {gm : Nat} {t : TypeId} {Al : Option Addr} {nl cl : Nat} {wa l0 l1 : Int} {Ab : Option Addr} {nb cb : Nat} {wr ab : Int} {lv : List Lv} {bl : List Bal} {W W' : World} (h : MemM gm t Al nl cl wa l0 l1 Ab nb cb wr ab lv bl W) (hb : Below W.heap.size W W') : MemM gm t Al nl cl wa l0 l1 Ab nb cb wr ab lv bl W' :=
  ⟨h.blk.below hb h.blk.lt, h.hl.later hb, h.hb.later hb⟩
/-- what is valid -/
structure OkM (nl nb : Nat) (wa l0 l1 wr ab : Int) (lv : List Lv) (bl : List Bal) : Prop where
  nl3 : nl ≤ 3
  nb6 : nb ≤ 6
  ll : lv.length = nl
  bb : bl.length = nb
  wa : 0 ≤ wa ∧ wa ≤ 9999
  lk : 0 ≤ l0 ∧ l0 ≤ l1 ∧ l1 ≤ 20
  wr : 0 ≤ wr ∧ wr ≤ 6
  ab : 1 ≤ ab ∧ ab ≤ 1000000000
  lv : ∀ k, k < nl → 1 ≤ (lvAt lv k).lo ∧ (lvAt lv k).lo ≤ (lvAt lv k).hi ∧ (lvAt lv k).hi ≤ 1000
  ba : ∀ k, k < nb → (0 ≤ (baAt bl k).wt ∧ (baAt bl k).wt ≤ 9999) ∧ (0 ≤ (baAt bl k).mi ∧ (baAt bl k).mi ≤ 99) ∧ (0 ≤ (baAt bl k).ld ∧ (baAt bl k).ld ≤ 999999999) ∧ (0 ≤ (baAt bl k).of ∧ (baAt bl k).of ≤ 999999999)
theorem pl3_bd {wa lk wt mi : Int} (h1 : 0 ≤ wa ∧ wa ≤ 9999) (h2 : 0 ≤ lk ∧ lk ≤ 20) (h3 : 0 ≤ wt ∧ wt ≤ 9999) (h4 : 0 ≤ mi ∧ mi ≤ 99) : (0 ≤ mi * lk ∧ mi * lk ≤ 1980) ∧ 0 ≤ pl3 wa lk wt mi ∧ pl3 wa lk wt mi ≤ 19998 := by
  have a1 : 0 ≤ mi * lk := Int.mul_nonneg h4.1 h2.1
  have a2 : mi * lk ≤ 99 * 20 := Int.mul_le_mul h4.2 h2.2 h2.1 (by omega)
  refine ⟨⟨a1, by omega⟩, ?_⟩
  unfold pl3
  split <;> omega

end Go.Proofs.Ytglpgcgidkdkiaa

namespace Go.Proofs.Ytglpgcgidkdkiaa
open Go.RowKit
open Go.Sort (grow)
set_option linter.unusedVariables false
set_option linter.unusedSimpArgs false

structure Hd where
  A : Option Addr
  n : Nat
  c : Nat
def encH (h : Hd) : List Value := [.slice h.A h.n h.c]
theorem encH_len (h : Hd) : (encH h).length = 1 := rfl
theorem encH_one (x : Hd) : ∀ u ∈ encH x, u.oneCell' = true := by
  intro u hu; simp only [encH, List.mem_cons, List.not_mem_nil, or_false] at hu; subst hu; rfl
def hAt (hs : List Hd) (k : Nat) : Hd := hs.getD k ⟨none, 0, 0⟩
def xAt (xss : List (List Int)) (k : Nat) : List Int := xss.getD k []
theorem hAt_lt {hs : List Hd} {h : Hd} {k : Nat} (hk : k < hs.length) : hAt (hs ++ [h]) k = hAt hs k := by
  unfold hAt; rw [List.getD_eq_getElem?_getD, List.getD_eq_getElem?_getD, List.getElem?_append_left hk]
theorem hAt_eq {hs : List Hd} {h : Hd} : hAt (hs ++ [h]) hs.length = h := by
  unfold hAt; rw [List.getD_eq_getElem?_getD]; simp
theorem xAt_lt {hs : List (List Int)} {h : List Int} {k : Nat} (hk : k < hs.length) : xAt (hs ++ [h]) k = xAt hs k := by
  unfold xAt; rw [List.getD_eq_getElem?_getD, List.getD_eq_getElem?_getD, List.getElem?_append_left hk]
theorem xAt_eq {hs : List (List Int)} {h : List Int} : xAt (hs ++ [h]) hs.length = h := by
  unfold xAt; rw [List.getD_eq_getElem?_getD]; simp
theorem IntsAt.grown {w w' : World} {A : Option Addr} {n : Nat} {xs : List Int} {row : Option Nat} (h : IntsAt w A n xs) (hg : w.grownBy w' row) (hne : ∀ a, A = some a → row ≠ some a.block) : IntsAt w' A n xs := by
  refine ⟨h.1, fun hn => ?_⟩
  obtain ⟨b, off, rfl, hb, hc⟩ := h.2 hn
  exact ⟨b, off, rfl, Nat.lt_of_lt_of_le hb hg.size, fun k hk j u hu => (World.cell?_of_block (hg.block b hb (fun e => hne _ rfl e.symm))).trans (hc k hk j u hu)⟩
/-- a slice of slices reads as a list of lists -/
structure SsAt (w : World) (A : Option Addr) (n : Nat) (hs : List Hd) (xss : List (List Int)) : Prop where
  sl : SlAt encH 1 ⟨none, 0, 0⟩ w A n hs
  xl : xss.length = n
  inn : ∀ k, k < n → IntsAt w (hAt hs k).A (hAt hs k).n (xAt xss k)
  bd : ∀ k, k < n → ∀ a, (hAt hs k).A = some a → a.block < w.heap.size
theorem SsAt.nil (w : World) : SsAt w none 0 [] [] := ⟨⟨rfl, fun h => absurd h (by omega)⟩, rfl, fun k hk => absurd hk (by omega), fun k hk => absurd hk (by omega)⟩
theorem SsAt.later {w w' : World} {A : Option Addr} {n : Nat} {hs : List Hd} {xss : List (List Int)} (h : SsAt w A n hs xss) (hb : Below w.heap.size w w') : SsAt w' A n hs xss :=
  ⟨⟨h.sl.1, h.sl.2.later hb⟩, h.xl, fun k hk => (h.inn k hk).later hb, fun k hk a ha => Nat.lt_of_lt_of_le (h.bd k hk a ha) hb.size⟩
theorem SsAt.get {w : World} {A : Option Addr} {n : Nat} {hs : List Hd} {xss : List (List Int)} (h : SsAt w A n hs xss) {k : Nat} (hk : k < n) :
    ∃ b off, A = some ⟨b, off, none⟩ ∧ b < w.heap.size ∧ w.cell? ⟨b, off + k, none⟩ = some (.slice (hAt hs k).A (hAt hs k).n (hAt hs k).c) ∧ IntsAt w (hAt hs k).A (hAt hs k).n (xAt xss k) := by
  obtain ⟨b, off, e, hb, hc⟩ := h.sl.2 (by omega)
  have h1 := hc k hk 0 _ rfl
  rw [Nat.mul_one] at h1
  exact ⟨b, off, e, hb, h1, h.inn k hk⟩
/-- a slice of slices that the call itself makes -/
structure OwnSs (base : Nat) (e : TypeId) (w : World) (v : Value) (n : Nat) (hs : List Hd) (xss : List (List Int)) : Prop where
  own : w.ownsRow base e 1 v n (hs.flatMap encH)
  hl : hs.length = n
  xl : xss.length = n
  inn : ∀ k, k < n → IntsAt w (hAt hs k).A (hAt hs k).n (xAt xss k) ∧ ∀ a, (hAt hs k).A = some a → v.ownBlock ≠ some a.block ∧ a.block < w.heap.size
section
variable {base : Nat} {e : TypeId} {w w' : World} {v : Value} {n : Nat} {hs : List Hd} {xss : List (List Int)}
theorem OwnSs.nil (w : World) (base : Nat) (e : TypeId) : OwnSs base e w (.slice none 0 0) 0 [] [] :=
  ⟨World.ownsRow_nil w base e 1, rfl, rfl, fun k hk => absurd hk (by omega)⟩
theorem OwnSs.later (h : OwnSs base e w v n hs xss) (hb : Below w.heap.size w w') : OwnSs base e w' v n hs xss :=
  ⟨own_below h.own hb, h.hl, h.xl, fun k hk => ⟨(h.inn k hk).1.later hb, fun a ha => ⟨((h.inn k hk).2 a ha).1, Nat.lt_of_lt_of_le ((h.inn k hk).2 a ha).2 hb.size⟩⟩⟩
theorem OwnSs.ss (h : OwnSs base e w v n hs xss) : ∃ A c, v = .slice A n c ∧ SsAt w A n hs xss := by
  obtain ⟨A, c, rfl, -, hsl⟩ := SlAt.of_own (d := (⟨none, 0, 0⟩ : Hd)) encH_len h.own h.hl
  exact ⟨A, c, rfl, hsl, h.xl, fun k hk => (h.inn k hk).1, fun k hk a ha => ((h.inn k hk).2 a ha).2⟩
theorem OwnSs.push (h : OwnSs base e w v n hs xss) {o : Obj} {v' : Value} {x : Hd} {xs : List Int} (hx : IntsAt w x.A x.n xs) (hne : ∀ a, x.A = some a → v.ownBlock ≠ some a.block ∧ a.block < w.heap.size)
    (ho : w'.ownsRow base e 1 v' (n + 1) ((hs ++ [x]).flatMap encH)) (hg : (w.alloc o).grownBy w' v.ownBlock) (ha : v'.ownBlock = v.ownBlock ∨ v'.ownBlock = some (w.alloc o).heap.size) : OwnSs base e w' v' (n + 1) (hs ++ [x]) (xss ++ [xs]) := by
  have hsz := hg.size
  simp only [World.size_alloc] at hsz
  have one : ∀ (y : Hd) (ys : List Int), IntsAt w y.A y.n ys → (∀ a, y.A = some a → v.ownBlock ≠ some a.block ∧ a.block < w.heap.size) → IntsAt w' y.A y.n ys ∧ ∀ a, y.A = some a → v'.ownBlock ≠ some a.block ∧ a.block < w'.heap.size := by
    intro y ys h1 h2
    refine ⟨IntsAt.grown (h1.later ((Below.refl _ _).alloc (Nat.le_refl _) o)) hg fun a e => (h2 a e).1, fun a e => ⟨?_, by have := (h2 a e).2; omega⟩⟩
    rcases ha with ha | ha
    · rw [ha]; exact (h2 a e).1
    · rw [ha]
      intro e'
      have h3 := (h2 a e).2
      have h4 := Option.some.inj e'
      simp at h4
      omega
  refine ⟨ho, by simp [h.hl], by simp [h.xl], fun k hk => ?_⟩
  rcases Nat.lt_succ_iff_lt_or_eq.1 hk with h' | rfl
  · rw [hAt_lt (by rw [h.hl]; exact h'), xAt_lt (by rw [h.xl]; exact h')]
    exact one _ _ (h.inn k h').1 (h.inn k h').2
  · have e1 := hAt_eq (hs := hs) (h := x)
    have e2 := xAt_eq (hs := xss) (h := xs)
    rw [h.hl] at e1
    rw [h.xl] at e2
    rw [e1, e2]
    exact one _ _ hx hne
/-- where a row of one's own lies -/
theorem own_addr {size : Nat} {A : Option Addr} {c : Nat} {xs : List Value} (h : w.ownsRow base e size (.slice A n c) n xs) : ∀ a, A = some a → base ≤ a.block ∧ a.block < w.heap.size := by
  intro a ha
  subst ha
  rcases h.2 with ⟨h1, h2⟩ | ⟨g, cap, cur, hv, hb, hh, r⟩
  · first | cases h1 | cases h2
  · cases hv
    exact ⟨hb, (Array.getElem?_eq_some_iff.1 hh).1⟩
end

end Go.Proofs.Ytglpgcgidkdkiaa
