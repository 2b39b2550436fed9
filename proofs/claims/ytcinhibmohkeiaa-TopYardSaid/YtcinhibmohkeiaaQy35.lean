/- The plain law of the loads (layer 3): the hull of the loads of all truths. -/
import Derived.Test.YtcinhibmohkeiaaQy04
namespace Go.Proofs.Ytcinhibmohkeiaa
open Go.RowKit
open Go.Sort (grow)
set_option linter.unusedVariables false
set_option linter.unusedSimpArgs false

/-- the load of a setting, rounded down, rounded up -/
def ld3 (wa ab wt mi : Int) (s : St3) : Sp := ⟨pl3 wa s.lk wt mi * ab / s.bw, (pl3 wa s.lk wt mi * ab + s.bw - 1) / s.bw⟩
def hl3 (a b : Sp) : Sp := ⟨min a.lo b.lo, max a.hi b.hi⟩
/-- the hull of the loads of the first k -/
def hu3 (wa ab wt mi : Int) (ys : List St3) (k : Nat) : Sp :=
  match (ys.take k).map (ld3 wa ab wt mi) with
  | [] => ⟨0, 0⟩
  | x :: xs => (x :: xs).foldl hl3 x
theorem hl3_idem (a : Sp) : hl3 a a = a := by unfold hl3; simp
theorem hu3_succ {wa ab wt mi : Int} {ys : List St3} {k : Nat} {y : St3} (h : ys[k]? = some y) :
    hu3 wa ab wt mi ys (k + 1) = hl3 (if k = 0 then ld3 wa ab wt mi y else hu3 wa ab wt mi ys k) (ld3 wa ab wt mi y) := by
  unfold hu3
  rw [List.take_add_one, h, List.map_append]
  cases k with
  | zero => simp [hl3_idem]
  | succ k =>
    have hl := (List.getElem?_eq_some_iff.1 h).1
    cases e : (ys.take (k + 1)).map (ld3 wa ab wt mi) with
    | nil =>
      have := congrArg List.length e
      rw [List.length_map, List.length_take, List.length_nil] at this
      omega
    | cons x xs =>
      simp only [Option.toList, List.map_cons, List.map_nil, List.cons_append]
      rw [if_neg (by omega), ← List.cons_append, List.foldl_append]
      rfl
theorem stS_mem {lv : List Lv} {l0 l1 : Int} : ∀ (r i : Nat) (s x : St3), x ∈ stS lv l0 l1 i r s → (∀ k, k < i + r → 1 ≤ (lvAt lv k).lo ∧ (lvAt lv k).hi ≤ 1000) → 1 ≤ s.bw → (l0 ≤ x.lk ∧ x.lk ≤ l1) ∧ 1 ≤ x.bw ∧ x.bw ≤ s.bw * 1000 ^ r
  | 0, i, s, x, h, _, hb => by
    unfold stS at h
    obtain ⟨k, hk, rfl⟩ := List.mem_map.1 h
    have := ups_mem.1 hk
    exact ⟨this, hb, by simp⟩
  | r + 1, i, s, x, h, hl, hb => by
    unfold stS at h
    obtain ⟨n, hn, hx⟩ := List.mem_flatMap.1 h
    have h1 := ups_mem.1 hn
    have h2 := hl i (by omega)
    have h3 : 1 ≤ s.bw * n := Int.le_trans (by omega) (Int.mul_le_mul hb (show (1 : Int) ≤ n by omega) (by omega) (by omega))
    obtain ⟨a, b, c⟩ := stS_mem r (i + 1) _ x hx (fun k hk => hl k (by omega)) (by rw [St3.put_bw]; exact h3)
    refine ⟨a, b, Int.le_trans c ?_⟩
    rw [St3.put_bw, Int.pow_succ, Int.mul_assoc]
    refine Int.mul_le_mul_of_nonneg_left ?_ (by omega)
    rw [Int.mul_comm]
    exact Int.mul_le_mul_of_nonneg_left (by omega) (Int.pow_nonneg (by omega))
theorem trS_mem {nl nb : Nat} {wa l0 l1 wr ab : Int} {lv : List Lv} {bl : List Bal} (ok : OkM nl nb wa l0 l1 wr ab lv bl) {x : St3} (h : x ∈ trS lv l0 l1 wa ab wr bl) : (0 ≤ x.lk ∧ x.lk ≤ 20) ∧ 1 ≤ x.bw ∧ x.bw ≤ 1000000000 := by
  unfold trS alS at h
  obtain ⟨y, hy, rfl⟩ := List.mem_map.1 h
  obtain ⟨s, hs, rfl⟩ := List.mem_map.1 (List.mem_filter.1 hy).1
  obtain ⟨a, b, c⟩ := stS_mem lv.length 0 ⟨0, 0, 0, 0, 1⟩ s hs (fun k hk => by have := ok.lv k (by have := ok.ll; omega); omega) (Int.le_refl _)
  have h2 : (1000 : Int) ^ lv.length ≤ 1000000000 := by
    have := ok.ll; have := ok.nl3
    match lv.length, (show lv.length ≤ 3 by omega) with
    | 0, _ => decide
    | 1, _ => decide
    | 2, _ => decide
    | 3, _ => decide
  have := ok.lk
  refine ⟨by show 0 ≤ s.lk ∧ s.lk ≤ 20; omega, b, ?_⟩
  show s.bw ≤ _
  simp only [Int.one_mul] at c
  omega
/-- the load of each is within the hull -/
theorem hu3_spec {wa ab wt mi : Int} {ys : List St3} : ∀ {k : Nat}, k ≤ ys.length → ∀ (j : Nat) (y : St3), j < k → ys[j]? = some y → (hu3 wa ab wt mi ys k).lo ≤ (ld3 wa ab wt mi y).lo ∧ (ld3 wa ab wt mi y).hi ≤ (hu3 wa ab wt mi ys k).hi
  | 0, _, j, _, h, _ => absurd h (by omega)
  | k + 1, hk, j, y, hj, hy => by
    obtain ⟨z, hz⟩ : ∃ z, ys[k]? = some z := ⟨_, List.getElem?_eq_getElem (by omega)⟩
    rw [hu3_succ hz]
    unfold hl3
    simp only
    by_cases h0 : k = 0
    · subst h0
      obtain rfl : j = 0 := by omega
      rw [hy] at hz
      cases hz
      rw [if_pos rfl]
      omega
    · rw [if_neg h0]
      by_cases hjk : j = k
      · subst hjk
        rw [hy] at hz
        cases hz
        omega
      · have := hu3_spec (wa := wa) (ab := ab) (wt := wt) (mi := mi) (ys := ys) (k := k) (by omega) j y (by omega) hy
        omega
theorem hu3_mem {wa ab wt mi : Int} {ys : List St3} {y : St3} (h : y ∈ ys) : (hu3 wa ab wt mi ys ys.length).lo ≤ (ld3 wa ab wt mi y).lo ∧ (ld3 wa ab wt mi y).hi ≤ (hu3 wa ab wt mi ys ys.length).hi := by
  obtain ⟨j, hj, e⟩ := List.getElem_of_mem h
  exact hu3_spec (Nat.le_refl _) j y hj (by rw [List.getElem?_eq_getElem hj, e])
/-- the hull is reached -/
theorem hu3_hit {wa ab wt mi : Int} {ys : List St3} : ∀ {k : Nat}, k ≤ ys.length → 0 < k → (∃ y ∈ ys, (hu3 wa ab wt mi ys k).lo = (ld3 wa ab wt mi y).lo) ∧ ∃ y ∈ ys, (hu3 wa ab wt mi ys k).hi = (ld3 wa ab wt mi y).hi
  | 0, _, h => absurd h (by omega)
  | k + 1, hk, _ => by
    obtain ⟨z, hz⟩ : ∃ z, ys[k]? = some z := ⟨_, List.getElem?_eq_getElem (by omega)⟩
    have hzm := List.mem_of_getElem? hz
    rw [hu3_succ hz]
    unfold hl3
    simp only
    by_cases h0 : k = 0
    · subst h0
      rw [if_pos rfl]
      exact ⟨⟨z, hzm, by omega⟩, ⟨z, hzm, by omega⟩⟩
    · rw [if_neg h0]
      obtain ⟨⟨a, ha, e1⟩, ⟨b, hb, e2⟩⟩ := hu3_hit (wa := wa) (ab := ab) (wt := wt) (mi := mi) (ys := ys) (k := k) (by omega) (by omega)
      constructor
      · rcases Int.le_total (hu3 wa ab wt mi ys k).lo (ld3 wa ab wt mi z).lo with h | h
        · exact ⟨a, ha, by omega⟩
        · exact ⟨z, hzm, by omega⟩
      · rcases Int.le_total (hu3 wa ab wt mi ys k).hi (ld3 wa ab wt mi z).hi with h | h
        · exact ⟨z, hzm, by omega⟩
        · exact ⟨b, hb, by omega⟩
/-- rounding up -/
theorem up_mul {n b : Int} (hb : 1 ≤ b) : n ≤ (n + b - 1) / b * b := by
  have h1 := Int.mul_ediv_add_emod (n + b - 1) b
  have h2 := Int.emod_lt_of_pos (n + b - 1) (show 0 < b by omega)
  rw [Int.mul_comm] at h1
  omega
theorem up_ge {n b : Int} (hb : 1 ≤ b) : n / b ≤ (n + b - 1) / b := Int.ediv_le_ediv (by omega) (by omega)
/-- what the settings behind some short arms are -/
def puts3 (us : List Int) : Nat → Nat → St3 → St3
  | _, 0, s => s
  | i, r + 1, s => puts3 us (i + 1) r (s.put i (iAt us i))
def prS3 (us : List Int) (i : Nat) : Nat → Int
  | 0 => 1
  | r + 1 => iAt us i * prS3 us (i + 1) r
theorem puts3_bw (us : List Int) : ∀ (r i : Nat) (s : St3), (puts3 us i r s).bw = s.bw * prS3 us i r
  | 0, i, s => by show s.bw = s.bw * 1; omega
  | r + 1, i, s => by
    show (puts3 us (i + 1) r (s.put i (iAt us i))).bw = s.bw * (iAt us i * prS3 us (i + 1) r)
    rw [puts3_bw us r (i + 1), St3.put_bw, Int.mul_assoc]
theorem stS_of {lv : List Lv} {l0 l1 lk : Int} {us : List Int} (hk : l0 ≤ lk ∧ lk ≤ l1) : ∀ (r i : Nat) (s : St3), (∀ k, i ≤ k → k < i + r → (lvAt lv k).lo ≤ iAt us k ∧ iAt us k ≤ (lvAt lv k).hi) → { puts3 us i r s with lk := lk } ∈ stS lv l0 l1 i r s
  | 0, i, s, _ => by
    unfold stS
    exact List.mem_map.2 ⟨lk, ups_mem.2 hk, rfl⟩
  | r + 1, i, s, h => by
    unfold stS
    exact List.mem_flatMap.2 ⟨iAt us i, ups_mem.2 (h i (by omega) (by omega)), stS_of hk r (i + 1) _ fun k h1 h2 => h k (by omega) (by omega)⟩
theorem prS3_end (us : List Int) : ∀ (r i : Nat), prS3 us i (r + 1) = prS3 us i r * iAt us (i + r)
  | 0, i => by show iAt us i * 1 = 1 * iAt us (i + 0); rw [Nat.add_zero]; omega
  | r + 1, i => by
    show iAt us i * prS3 us (i + 1) (r + 1) = (iAt us i * prS3 us (i + 1) r) * iAt us (i + (r + 1))
    rw [prS3_end us r (i + 1), Int.mul_assoc, show i + 1 + r = i + (r + 1) by omega]
theorem prS3_bd {lv : List Lv} {us : List Int} {n : Nat} (h : ∀ k, k < n → (1 ≤ (lvAt lv k).lo ∧ (lvAt lv k).hi ≤ 1000) ∧ (lvAt lv k).lo ≤ iAt us k ∧ iAt us k ≤ (lvAt lv k).hi) : ∀ r, r ≤ n → 1 ≤ prS3 us 0 r ∧ prS3 us 0 r ≤ (1000 : Int) ^ r
  | 0, _ => ⟨Int.le_refl _, Int.le_refl _⟩
  | r + 1, hr => by
    obtain ⟨a1, a2⟩ := prS3_bd h r (by omega)
    obtain ⟨⟨b1, b2⟩, b3, b4⟩ := h r (by omega)
    rw [prS3_end, Nat.zero_add, Int.pow_succ]
    exact ⟨Int.le_trans (by omega) (Int.mul_le_mul a1 (show (1 : Int) ≤ iAt us r by omega) (by omega) (by omega)), Int.mul_le_mul a2 (by omega) (by omega) (Int.pow_nonneg (by omega))⟩
/-- a truth as the specification has it: short arms and a leak -/
def tS3 (us : List Int) (lk : Int) : St3 := ⟨0, 0, 0, lk, prS3 us 0 us.length⟩
def isT3 (nl nb : Nat) (wa l0 l1 wr ab : Int) (lv : List Lv) (bl : List Bal) (us : List Int) (lk : Int) : Bool :=
  us.length == nl && (wn lk l0 l1 && (allN nl (fun k => wn (iAt us k) (lvAt lv k).lo (lvAt lv k).hi) && decide ((wr3 wa ab bl (tS3 us lk) nb : Int) ≤ wr)))
theorem wr3_same {wa ab : Int} {bl : List Bal} {s t : St3} (h1 : s.lk = t.lk) (h2 : s.bw = t.bw) (k : Nat) : wr3 wa ab bl s k = wr3 wa ab bl t k := by
  unfold wr3 rt3 df3
  rw [h1, h2]
theorem ld3_same {wa ab wt mi : Int} {s t : St3} (h1 : s.lk = t.lk) (h2 : s.bw = t.bw) : ld3 wa ab wt mi s = ld3 wa ab wt mi t := by
  unfold ld3
  rw [h1, h2]
/-- a truth of the specification is one of the program's -/
theorem isT3_tr {nl nb : Nat} {wa l0 l1 wr ab : Int} {lv : List Lv} {bl : List Bal} {us : List Int} {lk : Int} (hl : lv.length = nl) (hb : bl.length = nb) (h : isT3 nl nb wa l0 l1 wr ab lv bl us lk = true) : ∃ y ∈ trS lv l0 l1 wa ab wr bl, y.lk = lk ∧ y.bw = prS3 us 0 nl := by
  unfold isT3 at h
  simp only [Bool.and_eq_true, beq_iff_eq, decide_eq_true_eq, wn_true, allN_iff] at h
  obtain ⟨h1, h2, h3, h4⟩ := h
  have hm := stS_of (lv := lv) (us := us) h2 nl 0 ⟨0, 0, 0, 0, 1⟩ (fun k _ hk => h3 k (by omega))
  refine ⟨{ puts3 us 0 nl ⟨0, 0, 0, 0, 1⟩ with lk := lk }, ?_, rfl, ?_⟩
  · unfold trS alS
    refine List.mem_map.2 ⟨(_, _), List.mem_filter.2 ⟨List.mem_map.2 ⟨_, by rw [hl]; exact hm, rfl⟩, ?_⟩, rfl⟩
    have : wr3 wa ab bl { puts3 us 0 nl ⟨0, 0, 0, 0, 1⟩ with lk := lk } bl.length = wr3 wa ab bl (tS3 us lk) nb := by
      rw [hb]
      refine wr3_same (s := { puts3 us 0 nl ⟨0, 0, 0, 0, 1⟩ with lk := lk }) (t := tS3 us lk) rfl ?_ nb
      show (puts3 us 0 nl ⟨0, 0, 0, 0, 1⟩).bw = prS3 us 0 us.length
      rw [puts3_bw, h1]
      exact Int.one_mul _
    rw [this]
    simpa using h4
  · show (puts3 us 0 nl ⟨0, 0, 0, 0, 1⟩).bw = _
    rw [puts3_bw]
    exact Int.one_mul _
/-- the load of a truth lies within the hull -/
theorem hull_truth {nl nb : Nat} {wa l0 l1 wr ab wt mi : Int} {lv : List Lv} {bl : List Bal} {us : List Int} {lk : Int} (ok : OkM nl nb wa l0 l1 wr ab lv bl) (h : isT3 nl nb wa l0 l1 wr ab lv bl us lk = true) :
    (hu3 wa ab wt mi (trS lv l0 l1 wa ab wr bl) (trS lv l0 l1 wa ab wr bl).length).lo ≤ pl3 wa lk wt mi * ab / prS3 us 0 nl ∧ pl3 wa lk wt mi * ab ≤ (hu3 wa ab wt mi (trS lv l0 l1 wa ab wr bl) (trS lv l0 l1 wa ab wr bl).length).hi * prS3 us 0 nl ∧ 1 ≤ prS3 us 0 nl := by
  obtain ⟨y, hy, e1, e2⟩ := isT3_tr ok.ll ok.bb h
  obtain ⟨-, hb, -⟩ := trS_mem ok hy
  obtain ⟨h1, h2⟩ := hu3_mem (wa := wa) (ab := ab) (wt := wt) (mi := mi) hy
  unfold ld3 at h1 h2
  rw [e1, e2] at h1 h2
  rw [e2] at hb
  simp only at h1 h2
  refine ⟨h1, ?_, hb⟩
  have h3 := up_mul (n := pl3 wa lk wt mi * ab) hb
  have h4 := Int.mul_le_mul_of_nonneg_right h2 (show 0 ≤ prS3 us 0 nl by omega)
  omega
/-- the hull goes up, from 0 on -/
theorem hull_sane {nl nb : Nat} {wa l0 l1 wr ab wt mi : Int} {lv : List Lv} {bl : List Bal} (ok : OkM nl nb wa l0 l1 wr ab lv bl) (hw : (0 ≤ wt ∧ wt ≤ 9999) ∧ 0 ≤ mi ∧ mi ≤ 99) (h : trS lv l0 l1 wa ab wr bl ≠ []) :
    0 ≤ (hu3 wa ab wt mi (trS lv l0 l1 wa ab wr bl) (trS lv l0 l1 wa ab wr bl).length).lo ∧ (hu3 wa ab wt mi (trS lv l0 l1 wa ab wr bl) (trS lv l0 l1 wa ab wr bl).length).lo ≤ (hu3 wa ab wt mi (trS lv l0 l1 wa ab wr bl) (trS lv l0 l1 wa ab wr bl).length).hi := by
  obtain ⟨⟨y, hy, e1⟩, -⟩ := hu3_hit (wa := wa) (ab := ab) (wt := wt) (mi := mi) (Nat.le_refl _) (List.length_pos_iff.2 h)
  obtain ⟨hk, hb, -⟩ := trS_mem ok hy
  obtain ⟨h1, h2⟩ := hu3_mem (wa := wa) (ab := ab) (wt := wt) (mi := mi) hy
  obtain ⟨-, h3, -⟩ := pl3_bd ok.wa (by have := ok.lk; omega) hw.1 hw.2
  have h5 : 0 ≤ pl3 wa y.lk wt mi * ab := Int.mul_nonneg h3 (by have := ok.ab; omega)
  have h6 : 0 ≤ (ld3 wa ab wt mi y).lo := Int.ediv_nonneg h5 (by omega)
  have h7 : (ld3 wa ab wt mi y).lo ≤ (ld3 wa ab wt mi y).hi := up_ge (n := pl3 wa y.lk wt mi * ab) hb
  omega

end Go.Proofs.Ytcinhibmohkeiaa
