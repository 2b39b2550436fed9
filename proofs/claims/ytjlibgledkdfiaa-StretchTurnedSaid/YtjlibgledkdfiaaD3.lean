/- Proving machines (layer 3): levers, balances, settings in plain Lean, and in memory. -/
import Derived.Test.YtjlibgledkdfiaaWn
namespace Go.Proofs.Ytjlibgledkdfiaa
open Go.RowKit
open Go.Sort (grow)
set_option linter.unusedVariables false

structure Lv where
  lg : Int
  lo : Int
  hi : Int
structure Bal where
  wt : Int
  mi : Int
  ld : Int
  of : Int
def encV (x : Lv) : List Value := [.int .i64 x.lg, .int .i64 x.lo, .int .i64 x.hi]
def encA (x : Bal) : List Value := [.int .i64 x.wt, .int .i64 x.mi, .int .i64 x.ld, .int .i64 x.of]
theorem encV_len (x : Lv) : (encV x).length = 3 := rfl
theorem encA_len (x : Bal) : (encA x).length = 4 := rfl
theorem encV_one (x : Lv) : ∀ u ∈ encV x, u.oneCell' = true := by
  intro u hu; simp only [encV, List.mem_cons, List.not_mem_nil, or_false] at hu; rcases hu with rfl | rfl | rfl <;> rfl
theorem encA_one (x : Bal) : ∀ u ∈ encA x, u.oneCell' = true := by
  intro u hu; simp only [encA, List.mem_cons, List.not_mem_nil, or_false] at hu; rcases hu with rfl | rfl | rfl | rfl <;> rfl
def lvAt (xs : List Lv) (k : Nat) : Lv := xs.getD k ⟨0, 0, 0⟩
def baAt (xs : List Bal) (k : Nat) : Bal := xs.getD k ⟨0, 0, 0, 0⟩
def LvsAt (w : World) (A : Option Addr) (n : Nat) (xs : List Lv) : Prop := SlAt encV 3 ⟨0, 0, 0⟩ w A n xs
def BasAt (w : World) (A : Option Addr) (n : Nat) (xs : List Bal) : Prop := SlAt encA 4 ⟨0, 0, 0, 0⟩ w A n xs
section
variable {w w' : World} {A : Option Addr} {n : Nat}
theorem LvsAt.later {xs : List Lv} (h : LvsAt w A n xs) (hb : Below w.heap.size w w') : LvsAt w' A n xs := ⟨h.1, h.2.later hb⟩
theorem BasAt.later {xs : List Bal} (h : BasAt w A n xs) (hb : Below w.heap.size w w') : BasAt w' A n xs := ⟨h.1, h.2.later hb⟩
theorem LvsAt.get {xs : List Lv} (h : LvsAt w A n xs) {k : Nat} (hk : k < n) :
    ∃ b off, A = some ⟨b, off, none⟩ ∧ b < w.heap.size ∧ w.cell? ⟨b, off + k * 3, none⟩ = some (.int .i64 (lvAt xs k).lg) ∧ w.cell? ⟨b, off + k * 3 + 1, none⟩ = some (.int .i64 (lvAt xs k).lo) ∧ w.cell? ⟨b, off + k * 3 + 2, none⟩ = some (.int .i64 (lvAt xs k).hi) := by
  obtain ⟨b, off, e, hb, hc⟩ := h.2 (by omega)
  exact ⟨b, off, e, hb, hc k hk 0 _ rfl, hc k hk 1 _ rfl, hc k hk 2 _ rfl⟩
theorem BasAt.get {xs : List Bal} (h : BasAt w A n xs) {k : Nat} (hk : k < n) :
    ∃ b off, A = some ⟨b, off, none⟩ ∧ b < w.heap.size ∧ w.cell? ⟨b, off + k * 4, none⟩ = some (.int .i64 (baAt xs k).wt) ∧ w.cell? ⟨b, off + k * 4 + 1, none⟩ = some (.int .i64 (baAt xs k).mi) ∧ w.cell? ⟨b, off + k * 4 + 2, none⟩ = some (.int .i64 (baAt xs k).ld) ∧ w.cell? ⟨b, off + k * 4 + 3, none⟩ = some (.int .i64 (baAt xs k).of) := by
  obtain ⟨b, off, e, hb, hc⟩ := h.2 (by omega)
  exact ⟨b, off, e, hb, hc k hk 0 _ rfl, hc k hk 1 _ rfl, hc k hk 2 _ rfl, hc k hk 3 _ rfl⟩
end
/-- a setting: the short arms, the leak, all short arms multiplied -/
structure St3 where
  s0 : Int
  s1 : Int
  s2 : Int
  lk : Int
  bw : Int
def St3.arm (s : St3) (i : Nat) : Int := match i with | 0 => s.s0 | 1 => s.s1 | _ => s.s2
/-- one more short arm -/
def St3.put (s : St3) (i : Nat) (n : Int) : St3 := match i with | 0 => { s with s0 := n, bw := s.bw * n } | 1 => { s with s1 := n, bw := s.bw * n } | _ => { s with s2 := n, bw := s.bw * n }
theorem St3.put_bw {s : St3} {i : Nat} {n : Int} : (s.put i n).bw = s.bw * n := by unfold St3.put; match i with | 0 => rfl | 1 => rfl | _ + 2 => rfl
theorem St3.put_lk {s : St3} {i : Nat} {n : Int} : (s.put i n).lk = s.lk := by unfold St3.put; match i with | 0 => rfl | 1 => rfl | _ + 2 => rfl
/-- the numbers from a to b -/
def ups (a b : Int) : List Int := (List.range (b - a + 1).toNat).map fun (j : Nat) => a + (j : Int)
theorem ups_len {a b : Int} : (ups a b).length = (b - a + 1).toNat := by simp [ups]
theorem ups_get {a b : Int} {j : Nat} (h : a + j ≤ b) : (ups a b)[j]? = some (a + j) := by
  unfold ups
  rw [List.getElem?_map, List.getElem?_range (by omega)]; rfl
theorem ups_mem {a b x : Int} : x ∈ ups a b ↔ a ≤ x ∧ x ≤ b := by
  unfold ups
  rw [List.mem_map]
  constructor
  · rintro ⟨j, hj, rfl⟩
    have := List.mem_range.1 hj
    omega
  · intro h
    refine ⟨(x - a).toNat, List.mem_range.2 (by omega), ?_⟩
    show a + (((x - a).toNat : Nat) : Int) = x
    omega
/-- all settings: those of which the first i short arms are known, r are left -/
def stS (lv : List Lv) (l0 l1 : Int) : Nat → Nat → St3 → List St3
  | _, 0, s => (ups l0 l1).map fun k => { s with lk := k }
  | i, r + 1, s => (ups (lvAt lv i).lo (lvAt lv i).hi).flatMap fun n => stS lv l0 l1 (i + 1) r (s.put i n)
/-- the weight and the water that is left -/
def pl3 (wa lk wt mi : Int) : Int := wt + (if 0 < wa - mi * lk then wa - mi * lk else 0)
def df3 (wa ab : Int) (s : St3) (b : Bal) : Int := pl3 wa s.lk b.wt b.mi * ab - b.ld * s.bw
def ab3 (x : Int) : Int := if x < 0 then -x else x
def rt3 (wa ab : Int) (s : St3) (b : Bal) : Bool := decide (ab3 (df3 wa ab s b) ≤ b.of * s.bw)
/-- how many of the first k balances are not right -/
def wr3 (wa ab : Int) (bl : List Bal) (s : St3) (k : Nat) : Nat := ((List.range k).filter fun j => !rt3 wa ab s (baAt bl j)).length
theorem wr3_succ {wa ab : Int} {bl : List Bal} {s : St3} {k : Nat} : wr3 wa ab bl s (k + 1) = wr3 wa ab bl s k + (bif rt3 wa ab s (baAt bl k) then 0 else 1) := by
  unfold wr3
  rw [List.range_succ, List.filter_append, List.length_append]
  cases h : rt3 wa ab s (baAt bl k) <;> simp [h]
theorem wr3_le {wa ab : Int} {bl : List Bal} {s : St3} {k : Nat} : wr3 wa ab bl s k ≤ k := by
  unfold wr3
  exact Nat.le_trans (List.length_filter_le _ _) (by simp)
/-- what all yields -/
def alS (lv : List Lv) (l0 l1 wa ab : Int) (bl : List Bal) : List (St3 × Nat) := (stS lv l0 l1 0 lv.length ⟨0, 0, 0, 0, 1⟩).map fun s => (s, wr3 wa ab bl s bl.length)
/-- what truths yields -/
def trS (lv : List Lv) (l0 l1 wa ab wr : Int) (bl : List Bal) : List St3 := ((alS lv l0 l1 wa ab bl).filter fun x => decide ((x.2 : Int) ≤ wr)).map fun x => x.1
/-- the machine at work, in memory -/
structure MemM (gm : Nat) (t : TypeId) (Al : Option Addr) (nl cl : Nat) (wa l0 l1 : Int) (Ab : Option Addr) (nb cb : Nat) (wr ab : Int) (lv : List Lv) (bl : List Bal) (W : World) : Prop where
  blk : Blk W gm t #[.slice Al nl cl, .int .i64 wa, .int .i64 l0, .int .i64 l1, .slice Ab nb cb, .int .i64 wr, .int .i64 ab]
  hl : LvsAt W Al nl lv
  hb : BasAt W Ab nb bl
theorem MemM.later {gm : Nat} {t : TypeId} {Al : Option Addr} {nl cl : Nat} {wa l0 l1 : Int} {Ab : Option Addr} {nb cb : Nat} {wr ab : Int} {lv : List Lv} {bl : List Bal} {W W' : World} (h : MemM gm t Al nl cl wa l0 l1 Ab nb cb wr ab lv bl W) (hb : Below W.heap.size W W') : MemM gm t Al nl cl wa l0 l1 Ab nb cb wr ab lv bl W' :=
  ⟨h.blk.below hb h.blk.lt, h.hl.later hb, h.hb.later hb⟩
/-- what is valid -/
structure OkM (nl nb : Nat) (wa l0 l1 wr ab : Int) (lv : List Lv) (bl : List Bal) : Prop where
  nl3 : nl ≤ 3
  nb6 : nb ≤ 6
  ll : lv.length = nl
  bb : bl.length = nb
  wa : 0 ≤ wa ∧ wa ≤ 9999
  lk : 0 ≤ l0 ∧ l0 ≤ l1 ∧ l1 ≤ 20
  wr : 0 ≤ wr ∧ wr ≤ 6
  ab : 1 ≤ ab ∧ ab ≤ 1000000000
  lv : ∀ k, k < nl → 1 ≤ (lvAt lv k).lo ∧ (lvAt lv k).lo ≤ (lvAt lv k).hi ∧ (lvAt lv k).hi ≤ 1000
  ba : ∀ k, k < nb → (0 ≤ (baAt bl k).wt ∧ (baAt bl k).wt ≤ 9999) ∧ (0 ≤ (baAt bl k).mi ∧ (baAt bl k).mi ≤ 99) ∧ (0 ≤ (baAt bl k).ld ∧ (baAt bl k).ld ≤ 999999999) ∧ (0 ≤ (baAt bl k).of ∧ (baAt bl k).of ≤ 999999999)
theorem pl3_bd {wa lk wt mi : Int} (h1 : 0 ≤ wa ∧ wa ≤ 9999) (h2 : 0 ≤ lk ∧ lk ≤ 20) (h3 : 0 ≤ wt ∧ wt ≤ 9999) (h4 : 0 ≤ mi ∧ mi ≤ 99) : (0 ≤ mi * lk ∧ mi * lk ≤ 1980) ∧ 0 ≤ pl3 wa lk wt mi ∧ pl3 wa lk wt mi ≤ 19998 := by
  have a1 : 0 ≤ mi * lk := Int.mul_nonneg h4.1 h2.1
  have a2 : mi * lk ≤ 99 * 20 := Int.mul_le_mul h4.2 h2.2 h2.1 (by omega)
  refine ⟨⟨a1, by omega⟩, ?_⟩
  unfold pl3
  split <;> omega

end Go.Proofs.Ytjlibgledkdfiaa
