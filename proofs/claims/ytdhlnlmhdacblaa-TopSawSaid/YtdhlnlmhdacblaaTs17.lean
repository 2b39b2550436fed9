/- Heats and Least of bars (layer 1); Fewest, Least and Plan in plain terms (layer 1); A piece that is cut in two, in plain terms (layer 1). -/
import Derived.Handy
import Derived.Test.YtdhlnlmhdacblaaTs14
import Derived.Test.YtdhlnlmhdacblaaTs12
import Derived.Test.YtdhlnlmhdacblaaTs15
import Derived.Test.YtdhlnlmhdacblaaTs16
namespace Go.Proofs.Ytdhlnlmhdacblaa
open Go.RowKit
open Go.Sort (grow)
set_option linter.unusedVariables false
set_option linter.unusedSimpArgs false

def htL (bs : List Br) (L : List Int) : List Int := L.map fun b => (brAt bs b.toNat).heat
def mixL (bs : List Br) (L : List Int) (k : Nat) : List Int := htL bs (L.take k) ++ L.drop k
theorem mixL_len (bs : List Br) (L : List Int) (k : Nat) : (mixL bs L k).length = L.length := by simp [mixL, htL]; omega
theorem mixL_0 (bs : List Br) (L : List Int) : mixL bs L 0 = L := by simp [mixL, htL]
theorem mixL_all (bs : List Br) (L : List Int) : mixL bs L L.length = htL bs L := by simp [mixL]
theorem mixL_at {bs : List Br} {L : List Int} {k : Nat} (h : k < L.length) : iAt (mixL bs L k) k = iAt L k := by
  unfold iAt mixL htL
  rw [List.getD_eq_getElem?_getD, List.getD_eq_getElem?_getD, List.getElem?_append_right (by simp; omega)]
  simp
  rw [show k + (k - min k L.length) = k by omega]
theorem mixL_succ {bs : List Br} {L : List Int} {k : Nat} (h : k < L.length) : mixL bs L (k + 1) = (mixL bs L k).set k (brAt bs (iAt L k).toNat).heat := by
  have hk : iAt L k = L[k] := by
    unfold iAt
    rw [List.getD_eq_getElem?_getD, List.getElem?_eq_getElem h]; rfl
  rw [hk]
  have h1 : L.take (k + 1) = L.take k ++ [L[k]] := by rw [List.take_add_one, List.getElem?_eq_getElem h]; rfl
  have h2 : L.drop k = L[k] :: L.drop (k + 1) := List.drop_eq_getElem_cons h
  unfold mixL htL
  rw [h1, h2, List.map_append, List.append_assoc, List.set_append_right _ _ (by simp; omega)]
  have : k - (List.map (fun b => (brAt bs b.toNat).heat) (List.take k L)).length = 0 := by simp; omega
  rw [this]
  rfl
def heatsP (bs : List Br) (ps : List Pc) (kf wr piece : Int) : List Int := Lib.compact ((htL bs (ofP bs ps kf wr piece)).mergeSort leI)
theorem ofP_bar {bs : List Br} {ps : List Pc} {kf wr piece : Int} : ∀ v ∈ ofP bs ps kf wr piece, ∃ b : Nat, b < bs.length ∧ v = (b : Int) := by
  intro v hv
  unfold ofP at hv
  cases e : askE bs ps kf wr (wi piece 0 ((ps.length : Int) - 1)) == 0 <;> rw [e] at hv
  · simp at hv
  · simp only [cond_true, ofL, List.mem_map, List.mem_filter, List.mem_range] at hv
    obtain ⟨b, ⟨hb, -⟩, rfl⟩ := hv
    exact ⟨b, hb, rfl⟩
theorem ofP_len {bs : List Br} {ps : List Pc} {kf wr piece : Int} : (ofP bs ps kf wr piece).length ≤ bs.length := by
  unfold ofP
  cases askE bs ps kf wr (wi piece 0 ((ps.length : Int) - 1)) == 0
  · simp
  · exact ofL_len bs.length piece.toNat (swA bs ps kf wr) bs.length
theorem plF_len {nb m : Nat} : ∀ (T : List Sw) (o : List Int × Int), (∀ x ∈ T, x.of.length = m) → o.1.length ≤ m → (T.foldl (plF nb) o).1.length ≤ m := by
  intro T
  induction T with
  | nil => exact fun o _ h => h
  | cons x T ih =>
    intro o hx h
    refine ih _ (fun y hy => hx y (by simp [hy])) ?_
    unfold plF
    cases decide ((usB nb x : Int) < o.2)
    · exact h
    · simp only [cond_true]; rw [hx x (by simp)]; exact Nat.le_refl _
theorem planP_len {bs : List Br} {ps : List Pc} {kf wr : Int} : (planP bs ps kf wr).length ≤ ps.length := by
  unfold planP
  cases askE bs ps kf wr true == 0
  · simp
  · exact plF_len _ _ (fun x hx => swA_of_len hx) (by simp)
def leastP (bs : List Br) (ps : List Pc) (kf wr : Int) : Int := ((Lib.compact ((planP bs ps kf wr).mergeSort leI)).length : Int)
set_option maxRecDepth 100000 in
set_option maxHeartbeats 3200000 in
theorem least_c (Ab Ap : Option Addr) (nb cb np cp : Nat) (kf wrg : Int) (bs : List Br) (ms : List Pm) (ps : List Pc) (w : World) (h1 : nb ≤ 40) (h2 : np ≤ 40) (h3 : ∀ k, k < np → (pcAt ps k).hs.length ≤ 40) (HB : BrsAt w Ab nb bs) (HP : PcsAt w Ap np ms ps) :
    Calls Try.prog 25 #[.agg #[.slice Ab nb cb, .int .i64 kf, .slice Ap np cp, .int .i64 wrg]] w fun e w' => e = .returned (.tuple #[.int .i64 (leastP bs ps kf wrg), .int .i64 (askE bs ps kf wrg true)]) ∧ Below w.heap.size w w' := by
  have hpl := Lib.hid (fun W (hb : Below w.heap.size w W) => plan_c Ab Ap nb cb np cp kf wrg bs ms ps W h1 h2 h3 (HB.later hb) (HP.later hb))
  have hll := planP_len (bs := bs) (ps := ps) (kf := kf) (wr := wrg)
  rw [HP.pl] at hll
  obtain ⟨L, hL⟩ : ∃ L, planP bs ps kf wrg = L := ⟨_, rfl⟩
  have hhp : leastP bs ps kf wrg = ((Lib.compact (L.mergeSort leI)).length : Int) := by unfold leastP; rw [hL]
  rw [hL] at hll
  have HL := Lib.hid hL
  obtain ⟨z, hz⟩ : ∃ z, askE bs ps kf wrg true = z := ⟨_, rfl⟩
  have HZ := Lib.hid hz
  rw [hz, hhp]
  clear HB HP h3 hL hz hhp
  go_enter Try.func25, Try.ntmps25
  go_wp2_with fail
  refine (hpl.out _ (by (repeat first | with_reducible assumption | with_reducible exact Below.refl _ _ | (with_reducible refine Below.alloc ?_ ?side _; case side => (first | omega | (with_reducible exact Below.size (by assumption)) | (simp; done) | (simp; omega))) | (with_reducible refine Below.setCell ?_ ?side _; case side => (first | omega | (with_reducible exact Below.size (by assumption)) | (simp; done) | (simp; omega))) | with_reducible refine Below.drew ?_ | with_reducible refine below_drewN ?_ _ | (with_reducible refine below_step (by assumption) ?side ?_; case side => (first | omega | (with_reducible exact Below.size (by assumption)) | (simp; done) | (simp; omega)))))).mono ?_
  rintro e w1 ⟨A, c, rfl, ho, hb1⟩
  rw [HL.out] at ho ⊢
  rw [HZ.out]
  have BX : Below w.heap.size w w1 := by (repeat first | with_reducible assumption | with_reducible exact Below.refl _ _ | (with_reducible refine Below.alloc ?_ ?side _; case side => (first | omega | (with_reducible exact Below.size (by assumption)) | (simp; done) | (simp; omega))) | (with_reducible refine Below.setCell ?_ ?side _; case side => (first | omega | (with_reducible exact Below.size (by assumption)) | (simp; done) | (simp; omega))) | with_reducible refine Below.drew ?_ | with_reducible refine below_drewN ?_ _ | (with_reducible refine below_step (by assumption) ?side ?_; case side => (first | omega | (with_reducible exact Below.size (by assumption)) | (simp; done) | (simp; omega))))
  have hso := sort_own ho (by omega)
  have hge := own_ge ho
  simp only [World.size_alloc] at hge
  have hs1 := BX.size
  have z1 := hb1.size
  simp only [World.size_alloc] at z1
  obtain ⟨n, hn⟩ : ∃ n, L.length = n := ⟨_, rfl⟩
  rw [hn] at hso hge ⊢
  have hms : (L.mergeSort leI).length = n := by rw [List.length_mergeSort, hn]
  have HMS := Lib.hid hms
  replace hso := Lib.hid hso
  replace hge := Lib.hid hge
  clear ho hb1 hn hms
  go_wp2_with (go_at_call 49; refine hso.out.mono ?_; rintro e w3 ⟨rfl, ho3, hg3⟩)
  rw [← HMS.out] at ho3
  have hco := compact_own ho3
  rw [HMS.out] at hco
  have hb3 : Below (w.heap.size + 1) w1 w3 := Below.grown (Below.refl _ _) hg3 (by omega) hge.out
  have HC := Lib.hid hco
  have hge3 := own_ge ho3
  simp only [World.size_alloc] at hge3
  replace hge3 := Lib.hid hge3
  rw [HMS.out] at hge3
  clear hco ho3 hg3
  go_wp2_with (go_at_call 50; refine HC.out.mono ?_; rintro e w4 ⟨A4, c4, rfl, ho4, hg4⟩)
  have hb4 : Below (w.heap.size + 1) w3 w4 := Below.grown (Below.refl _ _) hg4 (by have := hb3.size; omega) hge3.out
  have hbw4 : Below w.heap.size w w4 := BX.trans ((hb3.trans hb4).mono (by omega))
  exact bodyPost_ret (v := .tuple #[.int .i64 ((Lib.compact (L.mergeSort leI)).length : Int), .int .i64 z]) (by simp [results, Try.results25, go_sem]) rfl ⟨rfl, hbw4⟩

end Go.Proofs.Ytdhlnlmhdacblaa

namespace Go.Proofs.Ytdhlnlmhdacblaa
open Go.RowKit
open Go.Sort (grow)
set_option linter.unusedVariables false
set_option linter.unusedSimpArgs false

def usL (nb : Nat) (l : List Nat) : Nat := (List.range nb).countP fun k => decide (0 < l.count k)
theorem usL_le (nb : Nat) (l : List Nat) : usL nb l ≤ nb := Nat.le_trans List.countP_le_length (by simp)
theorem usB_of {bs : List Br} {ps : List Pc} {kf : Int} {l : List Nat} : usB bs.length (swOf bs ps kf l) = usL bs.length l := by
  unfold usB usL
  refine List.countP_congr fun k hk => ?_
  have hk := List.mem_range.1 hk
  simp only [swOf, iAt_mapR hk, decide_eq_true_eq]
  omega
theorem lsF_fold : ∀ (L : List Sw) (m : Int), 0 ≤ m → (∀ x ∈ L, 0 ≤ x.wrong) →
    (L.foldl lsF m = m ∨ ∃ x ∈ L, x.wrong = L.foldl lsF m) ∧ L.foldl lsF m ≤ m ∧ 0 ≤ L.foldl lsF m ∧ ∀ x ∈ L, L.foldl lsF m ≤ x.wrong := by
  intro L
  induction L with
  | nil => intro m hm _; exact ⟨.inl rfl, Int.le_refl _, hm, fun x hx => by cases hx⟩
  | cons x L ih =>
    intro m hm hL
    have hx := hL x (by simp)
    have hL' : ∀ y ∈ L, 0 ≤ y.wrong := fun y hy => hL y (by simp [hy])
    simp only [List.foldl_cons]
    have h0 : decide (m < 0) = false := by simp; omega
    by_cases g : x.wrong < m
    · have e : lsF m x = x.wrong := by unfold lsF; rw [h0, decide_eq_true g]; rfl
      rw [e]
      obtain ⟨h1, h2, h3, h4⟩ := ih x.wrong hx hL'
      refine ⟨.inr ?_, by omega, h3, fun y hy => ?_⟩
      · rcases h1 with h1 | ⟨y, hy, h1⟩
        · exact ⟨x, by simp, h1.symm⟩
        · exact ⟨y, by simp [hy], h1⟩
      · rcases List.mem_cons.1 hy with rfl | hy
        · exact h2
        · exact h4 y hy
    · have e : lsF m x = m := by unfold lsF; rw [h0, decide_eq_false g]; rfl
      rw [e]
      obtain ⟨h1, h2, h3, h4⟩ := ih m hm hL'
      refine ⟨?_, h2, h3, fun y hy => ?_⟩
      · rcases h1 with h1 | ⟨y, hy, h1⟩
        · exact .inl h1
        · exact .inr ⟨y, by simp [hy], h1⟩
      · rcases List.mem_cons.1 hy with rfl | hy
        · omega
        · exact h4 y hy
theorem few_ok {bs : List Br} {ps : List Pc} {kf wr : Int} (h : ckS bs ps kf wr = true) :
    (fewP bs ps kf wr = (0, 3) ∧ trL bs ps kf 8 = []) ∨ ∃ r : Nat, fewP bs ps kf wr = ((r : Int), 0) ∧ (∃ l ∈ trL bs ps kf 8, wgB bs ps l = r) ∧ ∀ l ∈ trL bs ps kf 8, r ≤ wgB bs ps l := by
  unfold fewP
  rw [h, swA_ok h (by omega)]
  cases e : trL bs ps kf 8 with
  | nil => left; exact ⟨rfl, rfl⟩
  | cons l L =>
    right
    simp only [List.map_cons, List.foldl_cons, cond_true]
    have e0 : lsF (-1) (swOf bs ps kf l) = (wgB bs ps l : Int) := rfl
    rw [e0]
    obtain ⟨h1, h2, h3, h4⟩ := lsF_fold (L.map (swOf bs ps kf)) (wgB bs ps l : Int) (by omega) (fun x hx => by
      obtain ⟨m, -, rfl⟩ := List.mem_map.1 hx
      show 0 ≤ (wgB bs ps m : Int)
      omega)
    obtain ⟨r, hr⟩ := Int.eq_ofNat_of_zero_le h3
    rw [hr] at h1 h2 h4 ⊢
    have hd : decide ((r : Int) < 0) = false := by simp
    rw [hd]
    refine ⟨r, rfl, ?_, fun m hm => ?_⟩
    · rcases h1 with h1 | ⟨x, hx, h1⟩
      · exact ⟨l, by simp, by omega⟩
      · obtain ⟨m, hm, rfl⟩ := List.mem_map.1 hx
        have h1 : (wgB bs ps m : Int) = r := h1
        exact ⟨m, by simp [hm], by omega⟩
    · rcases List.mem_cons.1 hm with rfl | hm
      · omega
      · have h5 : (r : Int) ≤ (wgB bs ps m : Int) := h4 _ (List.mem_map.2 ⟨m, hm, rfl⟩)
        omega
theorem plF_fold {nb : Nat} : ∀ (L : List Sw) (o : List Int × Int),
    (L.foldl (plF nb) o = o ∨ ∃ x ∈ L, L.foldl (plF nb) o = (x.of, (usB nb x : Int))) ∧ (L.foldl (plF nb) o).2 ≤ o.2 ∧ ∀ x ∈ L, (L.foldl (plF nb) o).2 ≤ (usB nb x : Int) := by
  intro L
  induction L with
  | nil => intro o; exact ⟨.inl rfl, Int.le_refl _, fun x hx => by cases hx⟩
  | cons x L ih =>
    intro o
    simp only [List.foldl_cons]
    by_cases g : (usB nb x : Int) < o.2
    · have e : plF nb o x = (x.of, (usB nb x : Int)) := by unfold plF; rw [decide_eq_true g]; rfl
      rw [e]
      obtain ⟨h1, h2, h3⟩ := ih (x.of, (usB nb x : Int))
      refine ⟨.inr ?_, by simp only at h2; omega, fun y hy => ?_⟩
      · rcases h1 with h1 | ⟨y, hy, h1⟩
        · exact ⟨x, by simp, h1⟩
        · exact ⟨y, by simp [hy], h1⟩
      · rcases List.mem_cons.1 hy with rfl | hy
        · exact h2
        · exact h3 y hy
    · have e : plF nb o x = o := by unfold plF; rw [decide_eq_false g]; rfl
      rw [e]
      obtain ⟨h1, h2, h3⟩ := ih o
      refine ⟨?_, h2, fun y hy => ?_⟩
      · rcases h1 with h1 | ⟨y, hy, h1⟩
        · exact .inl h1
        · exact .inr ⟨y, by simp [hy], h1⟩
      · rcases List.mem_cons.1 hy with rfl | hy
        · omega
        · exact h3 y hy
theorem plan_ok {bs : List Br} {ps : List Pc} {kf wr : Int} (h : ckS bs ps kf wr = true) :
    (trL bs ps kf wr = [] ∧ planP bs ps kf wr = []) ∨ ∃ l, l ∈ trL bs ps kf wr ∧ planP bs ps kf wr = toI l ∧ ∀ m ∈ trL bs ps kf wr, usL bs.length l ≤ usL bs.length m := by
  obtain ⟨-, -, h4, h5, h6, h7⟩ := ckS_vals h
  unfold planP
  rw [askE_ok h, swA_ok h h5.1]
  by_cases e : trL bs ps kf wr = []
  · rw [e]; exact .inl ⟨rfl, rfl⟩
  · rw [if_neg e]
    right
    simp only [beq_self_eq_true, cond_true]
    obtain ⟨h1, h2, h3⟩ := plF_fold (nb := bs.length) ((trL bs ps kf wr).map (swOf bs ps kf)) ([], (bs.length : Int) + 1)
    obtain ⟨l0, hl0⟩ := List.exists_mem_of_ne_nil _ e
    have h3' : ∀ m ∈ trL bs ps kf wr, (((trL bs ps kf wr).map (swOf bs ps kf)).foldl (plF bs.length) ([], (bs.length : Int) + 1)).2 ≤ (usL bs.length m : Int) := fun m hm => by
      have := h3 _ (List.mem_map.2 ⟨m, hm, rfl⟩)
      rwa [usB_of] at this
    rcases h1 with h1 | ⟨x, hx, h1⟩
    · have := h3' l0 hl0
      rw [h1] at this
      have := usL_le bs.length l0
      simp only at *
      omega
    · obtain ⟨l, hl, rfl⟩ := List.mem_map.1 hx
      rw [h1] at h3' ⊢
      refine ⟨l, hl, rfl, fun m hm => ?_⟩
      have := h3' m hm
      rw [usB_of] at this
      simp only at this
      omega
theorem least_ok {bs : List Br} {ps : List Pc} {kf wr : Int} (h : ckS bs ps kf wr = true) :
    (trL bs ps kf wr = [] ∧ leastP bs ps kf wr = 0) ∨ ∃ l, l ∈ trL bs ps kf wr ∧ leastP bs ps kf wr = (usL bs.length l : Int) ∧ ∀ m ∈ trL bs ps kf wr, usL bs.length l ≤ usL bs.length m := by
  have e0 : leastP bs ps kf wr = ((srtC (planP bs ps kf wr)).length : Int) := rfl
  rw [e0]
  rcases plan_ok h with ⟨h1, h2⟩ | ⟨l, hl, h2, h3⟩
  · rw [h2]
    refine .inl ⟨h1, ?_⟩
    have : srtC [] = [] := List.eq_nil_iff_forall_not_mem.2 fun v hv => by have := srtC_mem.1 hv; cases this
    rw [this]; rfl
  · rw [h2]
    refine .inr ⟨l, hl, ?_, h3⟩
    have hb := (trL_mem.1 hl).1.2
    rw [srtC_upto (n := bs.length) (fun v hv => by
      obtain ⟨k, hk, rfl⟩ := List.mem_map.1 hv
      exact ⟨k, hb k hk, rfl⟩), uptoL_len]
    congr 1
    unfold usL
    refine List.countP_congr fun k _ => ?_
    simp only [decide_eq_true_eq, toI, List.mem_map, List.count_pos_iff]
    constructor
    · rintro ⟨j, hj, e⟩
      have : j = k := by omega
      rw [← this]; exact hj
    · exact fun h => ⟨k, h, rfl⟩

theorem smB_mono {b : Nat} : ∀ (ps ps' : List Pc) (l : List Nat), ps'.length = ps.length → (∀ k, k < ps.length → (pcAt ps' k).long ≤ (pcAt ps k).long) → smB ps' l b ≤ smB ps l b
  | [], [], l, _, _ => Int.le_refl _
  | q :: ps, q' :: ps', [], _, _ => by simp [smB]
  | q :: ps, q' :: ps', c :: l, h, hk => by
    have ih := smB_mono (b := b) ps ps' l (by simpa using h) (fun k hk' => hk (k + 1) (by simpa using hk'))
    have h0 : q'.long ≤ q.long := hk 0 (by simp)
    simp only [smB, List.zip_cons_cons, List.map_cons, List.sum_cons] at ih ⊢
    cases c == b <;> simp <;> omega
  | [], q :: ps', _, h, _ => by simp at h
  | q :: ps, [], _, h, _ => by simp at h
theorem wgB_eq {bs bs' : List Br} (hb : ∀ k, (brAt bs' k).heat = (brAt bs k).heat) : ∀ (ps ps' : List Pc) (l : List Nat), ps'.length = ps.length → (∀ k, k < ps.length → (pcAt ps' k).hs = (pcAt ps k).hs) → wgB bs' ps' l = wgB bs ps l
  | [], [], l, _, _ => by simp [wgB]
  | q :: ps, q' :: ps', [], _, _ => by simp [wgB]
  | q :: ps, q' :: ps', c :: l, h, hk => by
    have ih := wgB_eq hb ps ps' l (by simpa using h) (fun k hk' => hk (k + 1) (by simpa using hk'))
    have h0 : q'.hs = q.hs := hk 0 (by simp)
    simp only [wgB, List.zip_cons_cons, List.countP_cons] at ih ⊢
    rw [ih, h0, hb]
  | [], q :: ps', _, h, _ => by simp at h
  | q :: ps, [], _, h, _ => by simp at h
/-- what BarsLonger turns a store into -/
structure LongTo (bs : List Br) (ps : List Pc) (kf : Int) (bs' : List Br) (ps' : List Pc) (kf' : Int) : Prop where
  bl : bs'.length = bs.length
  pl : ps'.length = ps.length
  heat : ∀ k, (brAt bs' k).heat = (brAt bs k).heat
  long : ∀ k, k < bs.length → (brAt bs k).long ≤ (brAt bs' k).long
  hs : ∀ k, k < ps.length → (pcAt ps' k).hs = (pcAt ps k).hs
  short : ∀ k, k < ps.length → (pcAt ps' k).long ≤ (pcAt ps k).long
  kerf : kf' ≤ kf
section
variable {bs bs' : List Br} {ps ps' : List Pc} {kf kf' wr most : Int} {l : List Nat}
theorem LongTo.ok (H : LongTo bs ps kf bs' ps' kf') (h : okB bs ps kf most l = true) : okB bs' ps' kf' most l = true := by
  rw [okB_iff] at h ⊢
  refine ⟨fun b hb => ?_, by rw [wgB_eq H.heat ps ps' l H.pl H.hs]; exact h.2⟩
  rw [H.bl] at hb
  have h1 := h.1 b hb
  unfold rsB at h1 ⊢
  have h2 := smB_mono (b := b) ps ps' l H.pl H.short
  have h3 := H.long b hb
  have h4 : kf' * ((l.count b - 1 : Nat) : Int) ≤ kf * ((l.count b - 1 : Nat) : Int) := Int.mul_le_mul_of_nonneg_right H.kerf (by omega)
  omega
theorem LongTo.mem (H : LongTo bs ps kf bs' ps' kf') (h : l ∈ trL bs ps kf most) : l ∈ trL bs' ps' kf' most := by
  obtain ⟨⟨h1, h2⟩, h3⟩ := trL_mem.1 h
  exact trL_mem.2 ⟨⟨by rw [H.pl]; exact h1, by rw [H.bl]; exact h2⟩, H.ok h3⟩
/-- what BarsLonger asks -/
theorem longer_law (H : LongTo bs ps kf bs' ps' kf') (hck : ckS bs ps kf wr = true) (ho : ckS bs' ps' kf' wr = true) :
    ((askE bs ps kf wr true = 3 ∧ (askE bs' ps' kf' wr true = 0 ∨ askE bs' ps' kf' wr true = 3)) ∨
      (askE bs ps kf wr true = 0 ∧ askE bs' ps' kf' wr true = 0 ∧ manyR bs ps kf wr ≤ manyR bs' ps' kf' wr ∧ leastP bs' ps' kf' wr ≤ leastP bs ps kf wr)) ∧
    (((fewP bs ps kf wr).2 = 3 ∧ ((fewP bs' ps' kf' wr).2 = 0 ∨ (fewP bs' ps' kf' wr).2 = 3)) ∨
      ((fewP bs ps kf wr).2 = 0 ∧ (fewP bs' ps' kf' wr).2 = 0 ∧ (fewP bs' ps' kf' wr).1 ≤ (fewP bs ps kf wr).1)) := by
  constructor
  · rw [askE_ok hck, askE_ok ho]
    by_cases e : trL bs ps kf wr = []
    · rw [if_pos e]
      refine .inl ⟨rfl, ?_⟩
      split <;> simp
    · obtain ⟨l0, hl0⟩ := List.exists_mem_of_ne_nil _ e
      have e' : trL bs' ps' kf' wr ≠ [] := fun h => by
        have := H.mem hl0
        rw [h] at this
        cases this
      rw [if_neg e, if_neg e']
      refine .inr ⟨rfl, rfl, ?_, ?_⟩
      · rw [manyR_ok hck, manyR_ok ho]
        unfold trL
        rw [H.bl, H.pl, ← List.countP_eq_length_filter, ← List.countP_eq_length_filter]
        have := List.countP_mono_left (l := allL bs.length ps.length) (p := okB bs ps kf wr) (q := okB bs' ps' kf' wr) fun l _ h => H.ok h
        omega
      · rcases least_ok hck with ⟨h1, -⟩ | ⟨l, hl, h1, -⟩
        · exact absurd h1 e
        · rcases least_ok ho with ⟨h2, -⟩ | ⟨m, hm, h2, h3⟩
          · exact absurd h2 e'
          · have := h3 l (H.mem hl)
            rw [h1, h2]
            rw [H.bl] at this ⊢
            omega
  · rcases few_ok hck with ⟨h1, h2⟩ | ⟨r, h1, ⟨l, hl, h2⟩, -⟩
    · left
      rw [h1]
      refine ⟨rfl, ?_⟩
      rcases few_ok ho with ⟨h3, -⟩ | ⟨r, h3, -⟩
      · rw [h3]; exact .inr rfl
      · rw [h3]; exact .inl rfl
    · right
      rw [h1]
      rcases few_ok ho with ⟨h3, h4⟩ | ⟨r', h3, -, h4⟩
      · have := H.mem hl
        rw [h4] at this
        cases this
      · rw [h3]
        have := h4 l (H.mem hl)
        rw [wgB_eq H.heat ps ps' l H.pl H.hs] at this
        exact ⟨rfl, rfl, by simp only; omega⟩
end

end Go.Proofs.Ytdhlnlmhdacblaa

namespace Go.Proofs.Ytdhlnlmhdacblaa
open Go.RowKit
open Go.Sort (grow)
set_option linter.unusedVariables false
set_option linter.unusedSimpArgs false

theorem anyN_ex {n : Nat} {p : Nat → Bool} : anyN n p = true ↔ ∃ k, k < n ∧ p k = true := by
  constructor
  · intro h
    apply Classical.byContradiction
    intro hn
    rw [anyN_no fun k hk => by
      cases e : p k
      · rfl
      · exact absurd ⟨k, hk, e⟩ hn] at h
    cases h
  · rintro ⟨k, hk, h⟩; exact anyN_yes hk h
theorem iAt_get {l : List Int} {k : Nat} (h : k < l.length) : iAt l k = l[k] := by
  unfold iAt; rw [List.getD_eq_getElem?_getD, List.getElem?_eq_getElem h]; rfl
theorem hasI_mem {l : List Int} {v : Int} : hasI l v = true ↔ v ∈ l := by
  unfold hasI
  rw [anyN_ex]
  constructor
  · rintro ⟨k, hk, h⟩
    rw [iAt_get hk] at h
    rw [← (by simpa using h : l[k] = v)]
    exact List.getElem_mem hk
  · intro h
    obtain ⟨k, hk, rfl⟩ := List.getElem_of_mem h
    exact ⟨k, hk, by rw [iAt_get hk]; simp⟩
theorem nodup_le {α : Type} [BEq α] [LawfulBEq α] : ∀ (A B : List α), A.Nodup → (∀ x ∈ A, x ∈ B) → A.length ≤ B.length
  | [], B, _, _ => by simp
  | a :: A, B, hn, hs => by
    have ha := hs a (by simp)
    obtain ⟨h1, h2⟩ := List.nodup_cons.1 hn
    have h3 := nodup_le A (B.erase a) h2 (fun x hx => by
      refine (List.mem_erase_of_ne ?_).2 (hs x (by simp [hx]))
      rintro rfl
      exact h1 hx)
    rw [List.length_erase_of_mem ha] at h3
    have := List.length_pos_of_mem ha
    simp only [List.length_cons]
    omega
def gN (l : List Nat) (k : Nat) : Nat := l.getD k 0
theorem trL_nodup (bs : List Br) (ps : List Pc) (kf most : Int) : (trL bs ps kf most).Nodup := (allL_nodup _ _).filter _
theorem toI_at {l : List Nat} {k : Nat} : iAt (toI l) k = (gN l k : Int) := by
  unfold iAt toI gN
  rw [List.getD_eq_getElem?_getD, List.getD_eq_getElem?_getD, List.getElem?_map]
  cases l[k]? <;> rfl
theorem of_ok {bs : List Br} {ps : List Pc} {kf wr : Int} (h : ckS bs ps kf wr = true) (hne : trL bs ps kf wr ≠ []) {pn : Nat} (hp : pn < ps.length) :
    ofP bs ps kf wr (pn : Int) = uptoL bs.length fun j => (trL bs ps kf wr).any fun l => gN l pn == j := by
  obtain ⟨-, -, h4, h5, h6, h7⟩ := ckS_vals h
  have hw : wi (pn : Int) 0 ((ps.length : Int) - 1) = true := wi_true.2 (by omega)
  unfold ofP
  rw [hw, askE_ok h, if_neg hne, swA_ok h h5.1]
  simp only [beq_self_eq_true, cond_true]
  unfold ofL uptoL
  congr 1
  refine List.filter_congr fun j _ => ?_
  rw [Bool.eq_iff_iff, decide_eq_true_eq, List.countP_pos_iff, List.any_eq_true]
  constructor
  · rintro ⟨x, hx, e⟩
    obtain ⟨l, hl, rfl⟩ := List.mem_map.1 hx
    refine ⟨l, hl, ?_⟩
    simp only [swOf, Int.toNat_natCast, toI_at, beq_iff_eq] at e ⊢
    omega
  · rintro ⟨l, hl, e⟩
    refine ⟨_, List.mem_map.2 ⟨l, hl, rfl⟩, ?_⟩
    simp only [swOf, Int.toNat_natCast, toI_at, beq_iff_eq] at e ⊢
    omega
theorem sub_upto {n : Nat} {P Q : Nat → Bool} (h : ∀ j, j < n → P j = true → Q j = true) : subI (uptoL n P) (uptoL n Q) = true := by
  unfold subI
  rw [Bool.and_eq_true, allN_iff]
  refine ⟨fun k hk => ?_, ?_⟩
  · rw [hasI_mem, uptoL_mem]
    obtain ⟨j, hj, hp, e⟩ := uptoL_mem.1 (iAt_mem hk)
    exact ⟨j, hj, h j hj hp, e⟩
  · rw [uptoL_len, uptoL_len, decide_eq_true_eq]
    exact List.countP_mono_left fun j hj => h j (List.mem_range.1 hj)
theorem smB_set : ∀ (ps : List Pc) (p : Nat) (x : Pc) (l : List Nat) (b : Nat), p < ps.length → p < l.length →
    smB (ps.set p x) l b = smB ps l b + (bif gN l p == b then x.long - (pcAt ps p).long else 0)
  | [], p, x, l, b, h, _ => by simp at h
  | q :: ps, p, x, [], b, _, h => by simp at h
  | q :: ps, 0, x, c :: l, b, _, _ => by
    simp only [smB, List.set_cons_zero, List.zip_cons_cons, List.map_cons, List.sum_cons]
    show _ = _ + (bif c == b then x.long - q.long else 0)
    cases c == b <;> simp <;> omega
  | q :: ps, p + 1, x, c :: l, b, h, h' => by
    have ih := smB_set ps p x l b (by simpa using h) (by simpa using h')
    simp only [smB, List.set_cons_succ, List.zip_cons_cons, List.map_cons, List.sum_cons] at ih ⊢
    rw [ih]
    show _ + (_ + (bif gN l p == b then x.long - (pcAt ps p).long else 0)) = _ + _ + (bif gN l p == b then x.long - (pcAt ps p).long else 0)
    omega
theorem wgB_set {bs : List Br} : ∀ (ps : List Pc) (p : Nat) (x : Pc) (l : List Nat), p < ps.length → x.hs = (pcAt ps p).hs → wgB bs (ps.set p x) l = wgB bs ps l
  | [], p, x, l, h, _ => by simp at h
  | q :: ps, p, x, [], _, _ => by simp [wgB]
  | q :: ps, 0, x, c :: l, _, e => by
    have e : x.hs = q.hs := e
    simp only [wgB, List.set_cons_zero, List.zip_cons_cons, List.countP_cons, e]
  | q :: ps, p + 1, x, c :: l, h, e => by
    have ih := wgB_set (bs := bs) ps p x l (by simpa using h) e
    simp only [wgB, List.set_cons_succ, List.zip_cons_cons, List.countP_cons] at ih ⊢
    rw [ih]
def twP (ps : List Pc) (p : Nat) (y r : Int) : List Pc := ps.set p ⟨y, (pcAt ps p).hs⟩ ++ [⟨r, (pcAt ps p).hs⟩]
theorem twP_len (ps : List Pc) (p : Nat) (y r : Int) : (twP ps p y r).length = ps.length + 1 := by simp [twP]
section
variable {bs : List Br} {ps : List Pc} {kf wr y r : Int} {p : Nat} {l : List Nat}
theorem gN_lt (h : p < l.length) : gN l p ∈ l := by
  unfold gN; rw [List.getD_eq_getElem?_getD, List.getElem?_eq_getElem h]; exact List.getElem_mem h
theorem two_ok (hp : p < ps.length) (hl : l.length = ps.length) (hr : r = (pcAt ps p).long - kf - y) (h : okB bs ps kf wr l = true) :
    okB bs (twP ps p y r) kf (wr + 1) (l ++ [gN l p]) = true := by
  have hsl : (ps.set p ⟨y, (pcAt ps p).hs⟩).length = ps.length := by simp
  have hl1 : l.length < (twP ps p y r).length := by rw [twP_len]; omega
  have hat : pcAt (twP ps p y r) l.length = ⟨r, (pcAt ps p).hs⟩ := by
    unfold pcAt twP; rw [List.getD_eq_getElem?_getD, List.getElem?_append_right (by rw [hsl]; omega), hsl, hl, Nat.sub_self]; rfl
  rw [okB_iff] at h ⊢
  refine ⟨fun b hb => ?_, ?_⟩
  · have h1 := h.1 b hb
    have e1 : smB (twP ps p y r) (l ++ [gN l p]) b = smB ps l b + (bif gN l p == b then y - (pcAt ps p).long else 0) + (bif gN l p == b then r else 0) := by
      rw [smB_snoc hl1, hat]
      have : smB (twP ps p y r) l b = smB (ps.set p ⟨y, (pcAt ps p).hs⟩) l b := by
        unfold smB twP
        rw [zip_more _ l (by rw [hsl]; omega)]
      rw [this, smB_set ps p _ l b hp (by omega)]
    unfold rsB at h1 ⊢
    rw [e1, count_snoc]
    by_cases e : gN l p = b
    · have e2 : (gN l p == b) = true := by simpa using e
      rw [e2]
      have hc : 0 < l.count b := List.count_pos_iff.2 (by rw [← e]; exact gN_lt (by omega))
      obtain ⟨m, hm⟩ := Nat.exists_eq_succ_of_ne_zero (Nat.ne_of_gt hc)
      rw [hm] at h1 ⊢
      simp only [Nat.succ_eq_add_one, Nat.add_sub_cancel, cond_true] at h1 ⊢
      rw [show ((m + 1 : Nat) : Int) = (m : Int) + 1 from rfl, Int.mul_add]
      omega
    · have e2 : (gN l p == b) = false := by simpa using e
      rw [e2]
      simpa using h1
  · have h2 := h.2
    rw [wgB_snoc hl1]
    have : wgB bs (twP ps p y r) l = wgB bs ps l := by
      have h3 := wgB_set (bs := bs) ps p ⟨y, (pcAt ps p).hs⟩ l hp rfl
      rw [← h3]
      unfold wgB twP
      rw [zip_more _ l (by rw [hsl]; omega)]
    rw [this]
    cases wrB bs (twP ps p y r) l.length (gN l p) <;> simp <;> omega
theorem two_mem (hp : p < ps.length) (hr : r = (pcAt ps p).long - kf - y) (h : l ∈ trL bs ps kf wr) : l ++ [gN l p] ∈ trL bs (twP ps p y r) kf (wr + 1) := by
  obtain ⟨⟨h1, h2⟩, h3⟩ := trL_mem.1 h
  refine trL_mem.2 ⟨⟨by rw [twP_len]; simp [h1], fun b hb => ?_⟩, two_ok hp h1 hr h3⟩
  rcases List.mem_append.1 hb with hb | hb
  · exact h2 b hb
  · rw [List.mem_singleton.1 hb]; exact h2 _ (gN_lt (by omega))
/-- what BarsTwo asks -/
theorem two_law (hck : ckS bs ps kf wr = true) (hp : p < ps.length) (hr : r = (pcAt ps p).long - kf - y) (ho : ckS bs (twP ps p y r) kf (wr + 1) = true) :
    (askE bs (twP ps p y r) kf (wr + 1) true = 0 ∨ askE bs (twP ps p y r) kf (wr + 1) true = 3) ∧ (askE bs ps kf wr true = 3 ∨
    (askE bs ps kf wr true = 0 ∧ askE bs (twP ps p y r) kf (wr + 1) true = 0 ∧ manyR bs ps kf wr ≤ manyR bs (twP ps p y r) kf (wr + 1) ∧
      subI (ofP bs ps kf wr (p : Int)) (ofP bs (twP ps p y r) kf (wr + 1) (p : Int)) = true ∧ subI (ofP bs ps kf wr (p : Int)) (ofP bs (twP ps p y r) kf (wr + 1) (ps.length : Int)) = true)) := by
  refine ⟨by rw [askE_ok ho]; split <;> simp, ?_⟩
  by_cases e : trL bs ps kf wr = []
  · exact .inl (by rw [askE_ok hck, if_pos e])
  right
  obtain ⟨l0, hl0⟩ := List.exists_mem_of_ne_nil _ e
  have e' : trL bs (twP ps p y r) kf (wr + 1) ≠ [] := fun h => by
    have := two_mem (y := y) hp hr hl0
    rw [h] at this
    cases this
  refine ⟨by rw [askE_ok hck, if_neg e], by rw [askE_ok ho, if_neg e'], ?_, ?_, ?_⟩
  · rw [manyR_ok hck, manyR_ok ho]
    have := nodup_le ((trL bs ps kf wr).map fun l => l ++ [gN l p]) (trL bs (twP ps p y r) kf (wr + 1)) (by
      refine List.Pairwise.map _ (fun a b (hab : a ≠ b) h => hab ?_) (trL_nodup bs ps kf wr)
      exact (List.append_inj' h rfl).1) (fun x hx => by
      obtain ⟨l, hl, rfl⟩ := List.mem_map.1 hx
      exact two_mem hp hr hl)
    rw [List.length_map] at this
    omega
  · rw [of_ok hck e hp, of_ok ho e' (by rw [twP_len]; omega)]
    refine sub_upto fun j _ h => ?_
    obtain ⟨l, hl, hj⟩ := List.any_eq_true.1 h
    refine List.any_eq_true.2 ⟨_, two_mem hp hr hl, ?_⟩
    have hlen := (trL_mem.1 hl).1.1
    have : gN (l ++ [gN l p]) p = gN l p := by
      show (l ++ [gN l p]).getD p 0 = l.getD p 0
      rw [List.getD_eq_getElem?_getD, List.getD_eq_getElem?_getD, List.getElem?_append_left (by omega)]
    rw [this]; exact hj
  · rw [of_ok hck e hp, of_ok ho e' (by rw [twP_len]; omega)]
    refine sub_upto fun j _ h => ?_
    obtain ⟨l, hl, hj⟩ := List.any_eq_true.1 h
    refine List.any_eq_true.2 ⟨_, two_mem hp hr hl, ?_⟩
    have hlen := (trL_mem.1 hl).1.1
    have : gN (l ++ [gN l p]) ps.length = gN l p := by
      show (l ++ [gN l p]).getD ps.length 0 = _
      rw [List.getD_eq_getElem?_getD, ← hlen, List.getElem?_append_right (Nat.le_refl _), Nat.sub_self]; rfl
    rw [this]; exact hj
end

end Go.Proofs.Ytdhlnlmhdacblaa
