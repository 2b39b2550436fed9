/- shortest and Fewest of the specification (layer 7). -/
import Derived.Test.YthjjakhmbgnnnaaRc7
namespace Go.Proofs.Ythjjakhmbgnnnaa
open Go.RowKit
open Go.Sort (grow)
set_option linter.unusedVariables false

def shC (n : Nat) (ls : List Sp) (q : Cb) : List Nat := bif ckC n ls q then shL q ls n else []
theorem er_shC (n : Nat) (ls : List Sp) (q : Cb) : (ckC n ls q = false ∧ erS n ls q = 70 ∧ shC n ls q = []) ∨ (ckC n ls q = true ∧ erS n ls q = 3 ∧ shC n ls q = [] ∧ shL q ls n = []) ∨ (ckC n ls q = true ∧ erS n ls q = 0 ∧ shC n ls q = shL q ls n ∧ ∃ y r, shL q ls n = y :: r ∧ plC n ls q = memN y n) := by
  unfold erS shC plC
  cases ckC n ls q with
  | false => exact .inl ⟨rfl, rfl, rfl⟩
  | true =>
    right
    cases shL q ls n with
    | nil => exact .inl ⟨rfl, rfl, rfl, rfl⟩
    | cons y r => exact .inr ⟨rfl, rfl, rfl, y, r, rfl, rfl⟩
def rsK (n : Nat) (S : List Nat) (k : Nat) : List Nat := (S.take k).foldl (shStep n) []
theorem rsK_succ {n : Nat} {S : List Nat} {k : Nat} (hk : k < S.length) : rsK n S (k + 1) = shStep n (rsK n S k) (uAt S k) := by
  unfold rsK
  rw [List.take_add_one, List.getElem?_eq_getElem hk, List.foldl_append]
  have : uAt S k = S[k] := by unfold uAt; rw [List.getD_eq_getElem?_getD, List.getElem?_eq_getElem hk]; rfl
  rw [this]; rfl
theorem rsK_len (n : Nat) (S : List Nat) (k : Nat) : (rsK n S k).length ≤ k := by
  induction k with
  | zero => simp [rsK]
  | succ k ih =>
    by_cases hk : k < S.length
    · rw [rsK_succ hk]
      unfold shStep
      split
      · simp
      · rename_i y r e
        rw [e] at ih
        simp at ih
        split
        · simp
        · split <;> simp <;> omega
    · have : rsK n S (k + 1) = rsK n S k := by
        unfold rsK
        rw [List.take_of_length_le (by omega), List.take_of_length_le (by omega)]
      rw [this]; omega
theorem lists_app (n : Nat) (S : List Nat) (x : Nat) : lists n (S ++ [x]) = lists n S ++ [ints (memN x n)] := by simp [lists]
/-- what shortest hands back -/
def SsRet (L : List Nat) (n : Nat) (z : Int) (w : World) (e : Ending) (w' : World) : Prop :=
  ∃ A1 c1 hs, e = .returned (.tuple #[.slice A1 L.length c1, .int .i64 z]) ∧ SsAt w' A1 L.length hs (lists n L) ∧ Below w.heap.size w w'
set_option maxRecDepth 100000 in
set_option maxHeartbeats 3200000 in
theorem refshortest_c (A : Option Addr) (n c : Nat) (q : Cb) (ls : List Sp) (w : World) (hn : n ≤ 40) (HL : SpsAt w A n ls) :
    Calls Try.prog 60 #[.agg #[.slice A n c, .int .i64 q.need, .int .i64 q.gap, .int .i64 q.doubt, .int .i64 q.joins, .int .i64 q.least]] w
      (SsRet (shC n ls q) n (erS n ls q) w) := by
  have hck : ∀ V, Below w.heap.size w V → Calls Try.prog 31 #[.agg #[.slice A n c, .int .i64 q.need, .int .i64 q.gap, .int .i64 q.doubt, .int .i64 q.joins, .int .i64 q.least]] V fun e w' => e = .returned (.int .i64 (erC (ckC n ls q))) ∧ Below V.heap.size V w' := fun V hV => refCheck_c A n c q ls V hn (HL.later hV)
  cases h1 : ckC n ls q
  · rw [h1, show erC false = 70 from rfl] at hck
    have e1 : erS n ls q = 70 := by unfold erS; rw [h1]; rfl
    have e2 : shC n ls q = [] := by unfold shC; rw [h1]; rfl
    rw [e1, e2]
    replace hck := Lib.hid hck
    clear HL h1 e1 e2
    go_enter Try.func60, Try.ntmps60
    go_wp2_with (go_at_call 31; refine (hck.out _ (by (repeat first | with_reducible assumption | with_reducible exact Below.refl _ _ | (with_reducible refine Below.alloc ?_ ?side _; case side => (first | omega | (with_reducible exact Below.size (by assumption)) | (simp; done) | (simp; omega))) | (with_reducible refine Below.setCell ?_ ?side _; case side => (first | omega | (with_reducible exact Below.size (by assumption)) | (simp; done) | (simp; omega))) | with_reducible refine Below.drew ?_ | with_reducible refine below_drewN ?_ _ | (with_reducible refine below_step (by assumption) ?side ?_; case side => (first | omega | (with_reducible exact Below.size (by assumption)) | (simp; done) | (simp; omega)))))).mono ?_; (rintro e w1 ⟨rfl, hb1⟩; obtain ⟨hc1, hf1⟩ := bcell hb1; have zs1 := hb1.size; (try simp at zs1); have n1_0 : w.heap.size < w1.heap.size := (by omega)))
    exact bodyPost_ret (v := .tuple #[.slice none 0 0, .int .i64 70]) (by simp [results, Try.results60, go_sem]) rfl ⟨none, 0, [], rfl, SsAt.nil _, by (repeat first | with_reducible assumption | with_reducible exact Below.refl _ _ | (with_reducible refine Below.alloc ?_ ?side _; case side => (first | omega | (with_reducible exact Below.size (by assumption)) | (simp; done) | (simp; omega))) | (with_reducible refine Below.setCell ?_ ?side _; case side => (first | omega | (with_reducible exact Below.size (by assumption)) | (simp; done) | (simp; omega))) | with_reducible refine Below.drew ?_ | with_reducible refine below_drewN ?_ _ | (with_reducible refine below_step (by assumption) ?side ?_; case side => (first | omega | (with_reducible exact Below.size (by assumption)) | (simp; done) | (simp; omega))))⟩
  rw [h1, show erC true = 0 from rfl] at hck
  replace hck := Lib.hid hck
  have hn12 := ck_len h1
  have hgd : ∀ V, Below w.heap.size w V → Calls Try.prog 53 #[.agg #[.slice A n c, .int .i64 q.need, .int .i64 q.gap, .int .i64 q.doubt, .int .i64 q.joins, .int .i64 q.least]] V fun e w' => ∃ A1 c1 hs, e = .returned (.slice A1 (goods q ls n).length c1) ∧ SsAt w' A1 (goods q ls n).length hs (lists n (goods q ls n)) ∧ Below V.heap.size V w' := fun V hV => refgood_c A n c q ls V hn12 (HL.later hV)
  have hgl := goods_len q ls n
  have hp2 : 2 ^ n ≤ 2 ^ 12 := Nat.pow_le_pow_right (by omega) hn12
  have hgl2 : (goods q ls n).length ≤ 4096 := by omega
  clear hgl hp2
  have e2 : shC n ls q = rsK n (goods q ls n) (goods q ls n).length := by
    unfold shC rsK; rw [h1, List.take_length]; rfl
  have e3 : (rsK n (goods q ls n) (goods q ls n).length = [] ∧ erS n ls q = 3) ∨ (rsK n (goods q ls n) (goods q ls n).length ≠ [] ∧ erS n ls q = 0) := by
    rw [← e2]
    rcases er_shC n ls q with ⟨h, -⟩ | ⟨-, a, b, -⟩ | ⟨-, a, b, y, r, d, -⟩
    · rw [h1] at h; cases h
    · exact .inl ⟨b, a⟩
    · exact .inr ⟨by rw [b, d]; simp, a⟩
  rw [e2]
  obtain ⟨S, hS⟩ : ∃ S, goods q ls n = S := ⟨_, rfl⟩
  rw [hS] at hgd hgl2 e3 ⊢
  obtain ⟨m, hm⟩ : ∃ m, S.length = m := ⟨_, rfl⟩
  obtain ⟨E, hE⟩ : ∃ E, erS n ls q = E := ⟨_, rfl⟩
  rw [hm] at hgd hgl2 e3 ⊢
  rw [hE] at e3 ⊢
  replace hgd := Lib.hid hgd
  have HM := Lib.hid hm
  have HE := Lib.hid e3
  clear h1 e2 e3 HL hS hm hE
  go_enter Try.func60, Try.ntmps60
  go_wp2_with (go_at_call 31; refine (hck.out _ (by (repeat first | with_reducible assumption | with_reducible exact Below.refl _ _ | (with_reducible refine Below.alloc ?_ ?side _; case side => (first | omega | (with_reducible exact Below.size (by assumption)) | (simp; done) | (simp; omega))) | (with_reducible refine Below.setCell ?_ ?side _; case side => (first | omega | (with_reducible exact Below.size (by assumption)) | (simp; done) | (simp; omega))) | with_reducible refine Below.drew ?_ | with_reducible refine below_drewN ?_ _ | (with_reducible refine below_step (by assumption) ?side ?_; case side => (first | omega | (with_reducible exact Below.size (by assumption)) | (simp; done) | (simp; omega)))))).mono ?_; (rintro e w1 ⟨rfl, hb1⟩; obtain ⟨hc1, hf1⟩ := bcell hb1; have zs1 := hb1.size; (try simp at zs1); have n1_0 : w.heap.size < w1.heap.size := (by omega)); (have d0 := (fun j => (hc1 w.heap.size j (by first | omega | (simp; done) | (simp; omega))).trans ((al1_0 rfl).2.1 j))); (have B1 : Below w.heap.size w w1 := (by (repeat first | with_reducible assumption | with_reducible exact Below.refl _ _ | (with_reducible refine Below.alloc ?_ ?side _; case side => (first | omega | (with_reducible exact Below.size (by assumption)) | (simp; done) | (simp; omega))) | (with_reducible refine Below.setCell ?_ ?side _; case side => (first | omega | (with_reducible exact Below.size (by assumption)) | (simp; done) | (simp; omega))) | with_reducible refine Below.drew ?_ | with_reducible refine below_drewN ?_ _ | (with_reducible refine below_step (by assumption) ?side ?_; case side => (first | omega | (with_reducible exact Below.size (by assumption)) | (simp; done) | (simp; omega)))))); clear hc1 hf1)
  refine (hgd.out _ B1).mono ?_
  rintro e w2 ⟨A1, c1, hds, rfl, hss, hb2⟩
  have HSS := Lib.hid hss
  have B2 : Below w.heap.size w w2 := by (repeat first | with_reducible assumption | with_reducible exact Below.refl _ _ | (with_reducible refine Below.alloc ?_ ?side _; case side => (first | omega | (with_reducible exact Below.size (by assumption)) | (simp; done) | (simp; omega))) | (with_reducible refine Below.setCell ?_ ?side _; case side => (first | omega | (with_reducible exact Below.size (by assumption)) | (simp; done) | (simp; omega))) | with_reducible refine Below.drew ?_ | with_reducible refine below_drewN ?_ _ | (with_reducible refine below_step (by assumption) ?side ?_; case side => (first | omega | (with_reducible exact Below.size (by assumption)) | (simp; done) | (simp; omega))))
  clear hss hb2 d0 B1
  have W_ := Lib.hid (OwnSs.nil w2 w2.heap.size 48)
  go_wp2_with fail
  go_loopw [5, 7] (fun v i (wr : World) => ∃ k : Nat, k ≤ m ∧ i = .int .i64 k ∧ (∃ hs, Hid (OwnSs w2.heap.size 48 wr v (rsK n S k).length hs (lists n (rsK n S k)))) ∧ Below w2.heap.size w2 wr) (fun _ i _ => m - (intOf i).toNat)
  case atStart => exact ⟨0, by omega, rfl, ⟨[], W_⟩, Below.refl _ _⟩
  case round =>
    obtain ⟨k, hk, rfl, ⟨hs, HO⟩, hb⟩ := hrel
    have zb := hb.size
    have hle := rsK_len n S k
    obtain ⟨A3, c3, rfl, hss3⟩ := HO.out.ss
    have HS3 := Lib.hid hss3
    clear hss3
    by_cases hkn : k < m
    · have hknB : decide ((k : Int) < m) = true := by simp; omega
      obtain ⟨b1, o1, rfl, hb1, x1, i1⟩ := (HSS.out.later hb).get hkn
      have bd1 := (HSS.out).bd k hkn
      rw [lists_at (by rw [HM.out]; exact hkn)] at i1
      have hsu := rsK_succ (n := n) (S := S) (k := k) (by rw [HM.out]; exact hkn)
      obtain ⟨h1, hh1⟩ : ∃ h, hAt hds k = h := ⟨_, rfl⟩
      rw [hh1] at x1 i1 bd1
      obtain ⟨x, hx⟩ : ∃ x, uAt S k = x := ⟨_, rfl⟩
      rw [hx] at i1 hsu
      have hlen1 : cntN x n = h1.n := by have := i1.1; rw [ints_len] at this; exact this
      have I1 := Lib.hid i1
      have BD1 := Lib.hid bd1
      have hl1 : h1.n ≤ n := by rw [← hlen1]; exact mem_len x n
      have HL1 := Lib.hid hlen1
      have HX := Lib.hid hx
      clear i1 bd1 hh1 hlen1 hx
      cases hO : rsK n S k with
      | nil =>
        rw [hO] at HO HS3 hsu
        have HY : Hid (rsK n S (k + 1) = [x]) := hsu
        have hz : decide ((0 : Int) < (((([] : List Nat).length) : Nat) : Int)) = false := rfl
        have hz2 : (((([] : List Nat).length : Nat) : Int) == 0) = true := rfl
        have hz3 : decide (0 < ([] : List Nat).length) = false := rfl
        clear hsu hO HS3
        go_wp2_with fail
        go_quiet (fail)
        go_wp2_with fail
        go_quiet (fail)
        go_upto_region 12 with (fail)
        go_name_world Wq hWq
        have hbq : Below wr.heap.size wr Wq := by rw [← hWq]; (repeat first | with_reducible assumption | with_reducible exact Below.refl _ _ | (with_reducible refine Below.alloc ?_ ?side _; case side => (first | omega | (with_reducible exact Below.size (by assumption)) | (simp; done) | (simp; omega))) | (with_reducible refine Below.setCell ?_ ?side _; case side => (first | omega | (with_reducible exact Below.size (by assumption)) | (simp; done) | (simp; omega))) | with_reducible refine Below.drew ?_ | with_reducible refine below_drewN ?_ _ | (with_reducible refine below_step (by assumption) ?side ?_; case side => (first | omega | (with_reducible exact Below.size (by assumption)) | (simp; done) | (simp; omega))))
        clear hWq
        have x1q := (hbq.cell (p := ⟨b1, o1 + k, none⟩) hb1).trans x1
        have zq := hbq.size
        have bq : Below w2.heap.size w2 Wq := hb.trans (hbq.mono zb)
        have HOq := Lib.hid (HO.out.later hbq)
        have I1q := Lib.hid (I1.out.later hbq)
        go_wp2_with (at_builtin; go_must (refine wpList_append_T _ (d := (⟨none, 0, 0⟩ : Hd)) rfl (.tmp 51) (.tmp 56) _ rfl w2.heap.size _ 1 24 slcE encH_len encH_one (Value.slice A3 ([] : List Nat).length c3) (Value.slice A3 ([] : List Nat).length c3).ownBlock (([] : List Nat).length) hs rfl rfl ?_ _ 1 _ [h1] rfl ?_ ?_ ?_ ?_; (exact HOq.out.own.alloc _); (exact sl_new encH_len rfl rfl rfl); (focus (first | omega | simp)); (focus (simp only [World.size_alloc]; omega)); (intro v' w6 hown6 hg6 hat6; have hb6 : Below w2.heap.size w2 w6 := (Below.grown (by (repeat first | with_reducible assumption | with_reducible exact Below.refl _ _ | (with_reducible refine Below.alloc ?_ ?side _; case side => (first | omega | (with_reducible exact Below.size (by assumption)) | (simp; done) | (simp; omega))) | (with_reducible refine Below.setCell ?_ ?side _; case side => (first | omega | (with_reducible exact Below.size (by assumption)) | (simp; done) | (simp; omega))) | with_reducible refine Below.drew ?_ | with_reducible refine below_drewN ?_ _ | (with_reducible refine below_step (by assumption) ?side ?_; case side => (first | omega | (with_reducible exact Below.size (by assumption)) | (simp; done) | (simp; omega))))) hg6 (by simp only [World.size_alloc]; omega) (own_ge HOq.out.own)); have HP := Lib.hid (HOq.out.push I1q.out (fun a e => ⟨fun e' => (by have h2 := (HOq.out.own.lt _ e').1; have h3 := BD1.out a e; omega), (by have h3 := BD1.out a e; omega)⟩) hown6 hg6 hat6); clear hown6 hg6 hat6)))
        refine ⟨⟨k + 1, by omega, by go_num, ⟨hs ++ [h1], ?_⟩, hb6⟩, by simp [intOf]; omega⟩
        rw [HY.out]
        have h := HP.out
        rw [HX.out.symm] at h ⊢
        exact h
      | cons y r =>
        rw [hO] at HO HS3 hsu hle
        obtain ⟨b3, o3, rfl, hb3, x3, i3⟩ := HS3.out.get (show 0 < (y :: r).length by simp)
        replace x3 : wr.cell? ⟨b3, o3, none⟩ = _ := x3
        rw [lists_at (show 0 < (y :: r).length by simp)] at i3
        have hlen3 : cntN y n = (hAt hs 0).n := by have := i3.1; rw [ints_len] at this; exact this
        have hl3 : (hAt hs 0).n ≤ n := by rw [← hlen3]; exact mem_len y n
        obtain ⟨h3, hh3⟩ : ∃ h, hAt hs 0 = h := ⟨_, rfl⟩
        rw [hh3] at x3 hlen3 hl3
        have hstep : shStep n (y :: r) x = if h1.n < h3.n then [x] else if h1.n = h3.n then y :: r ++ [x] else y :: r := by
          rw [← hlen3, ← HL1.out]; rfl
        rw [hstep] at hsu
        have hpos : 0 < (y :: r).length := by simp
        obtain ⟨L, hL⟩ : ∃ L, y :: r = L := ⟨_, rfl⟩
        rw [hL] at HO HS3 hsu hle hpos ⊢
        have hO' := hO.trans hL
        have HOE := Lib.hid hO'
        clear hO hL i3 hh3 hlen3 hstep hO' HS3
        have hz : decide (0 < L.length) = true := by simp; exact hpos
        have hz2 : ((L.length : Int) == 0) = false := by simp; intro e; rw [e] at hpos; simp at hpos
        have hz3 : decide ((0 : Int) < (L.length : Int)) = true := by simp; exact hpos
        rcases (by omega : h1.n < h3.n ∨ h1.n = h3.n ∨ h3.n < h1.n) with hc | hc | hc
        · rw [if_pos hc] at hsu
          have HY := Lib.hid hsu
          have t1 : decide (h1.n < h3.n) = true := by simpa using hc
          have t2 : decide ((h1.n : Int) < (h3.n : Int)) = true := by simpa using hc
          clear hsu hc
          go_wp2_with fail
          go_quiet (fail)
          go_wp2_with fail
          go_quiet (fail)
          go_upto_region 12 with (fail)
          go_name_world Wq hWq
          have hbq : Below wr.heap.size wr Wq := by rw [← hWq]; (repeat first | with_reducible assumption | with_reducible exact Below.refl _ _ | (with_reducible refine Below.alloc ?_ ?side _; case side => (first | omega | (with_reducible exact Below.size (by assumption)) | (simp; done) | (simp; omega))) | (with_reducible refine Below.setCell ?_ ?side _; case side => (first | omega | (with_reducible exact Below.size (by assumption)) | (simp; done) | (simp; omega))) | with_reducible refine Below.drew ?_ | with_reducible refine below_drewN ?_ _ | (with_reducible refine below_step (by assumption) ?side ?_; case side => (first | omega | (with_reducible exact Below.size (by assumption)) | (simp; done) | (simp; omega))))
          clear hWq
          have x1q := (hbq.cell (p := ⟨b1, o1 + k, none⟩) hb1).trans x1
          have zq := hbq.size
          have bq : Below w2.heap.size w2 Wq := hb.trans (hbq.mono zb)
          have HOq := Lib.hid (OwnSs.nil Wq w2.heap.size 48)
          have I1q := Lib.hid (I1.out.later hbq)
          go_wp2_with (at_builtin; go_must (refine wpList_append_T _ (d := (⟨none, 0, 0⟩ : Hd)) rfl (.tmp 51) (.tmp 56) _ rfl w2.heap.size _ 1 24 slcE encH_len encH_one (Value.slice none 0 0) (Value.slice none 0 0).ownBlock (0) ([] : List Hd) rfl rfl ?_ _ 1 _ [h1] rfl ?_ ?_ ?_ ?_; (exact HOq.out.own.alloc _); (exact sl_new encH_len rfl rfl rfl); (focus (first | omega | simp)); (focus (simp only [World.size_alloc]; omega)); (intro v' w6 hown6 hg6 hat6; have hb6 : Below w2.heap.size w2 w6 := (Below.grown (by (repeat first | with_reducible assumption | with_reducible exact Below.refl _ _ | (with_reducible refine Below.alloc ?_ ?side _; case side => (first | omega | (with_reducible exact Below.size (by assumption)) | (simp; done) | (simp; omega))) | (with_reducible refine Below.setCell ?_ ?side _; case side => (first | omega | (with_reducible exact Below.size (by assumption)) | (simp; done) | (simp; omega))) | with_reducible refine Below.drew ?_ | with_reducible refine below_drewN ?_ _ | (with_reducible refine below_step (by assumption) ?side ?_; case side => (first | omega | (with_reducible exact Below.size (by assumption)) | (simp; done) | (simp; omega))))) hg6 (by simp only [World.size_alloc]; omega) (own_ge HOq.out.own)); have HP := Lib.hid (HOq.out.push I1q.out (fun a e => ⟨fun e' => (by have h2 := (HOq.out.own.lt _ e').1; have h3 := BD1.out a e; omega), (by have h3 := BD1.out a e; omega)⟩) hown6 hg6 hat6); clear hown6 hg6 hat6)))
          refine ⟨⟨k + 1, by omega, by go_num, ⟨[h1], ?_⟩, hb6⟩, by simp [intOf]; omega⟩
          rw [HY.out]
          have h := HP.out
          rw [HX.out.symm] at h ⊢
          exact h
        · rw [if_neg (by omega), if_pos hc] at hsu
          have HY := Lib.hid hsu
          have t1 : decide (h1.n < h3.n) = false := by simp; omega
          have t2 : decide ((h1.n : Int) < (h3.n : Int)) = false := by simp; omega
          have t3 : (h1.n == h3.n) = true := by simpa using hc
          have t4 : ((h1.n : Int) == (h3.n : Int)) = true := by simp; omega
          clear hsu hc
          go_wp2_with fail
          go_quiet (fail)
          go_wp2_with fail
          go_quiet (fail)
          go_upto_region 12 with (fail)
          go_name_world Wq hWq
          have hbq : Below wr.heap.size wr Wq := by rw [← hWq]; (repeat first | with_reducible assumption | with_reducible exact Below.refl _ _ | (with_reducible refine Below.alloc ?_ ?side _; case side => (first | omega | (with_reducible exact Below.size (by assumption)) | (simp; done) | (simp; omega))) | (with_reducible refine Below.setCell ?_ ?side _; case side => (first | omega | (with_reducible exact Below.size (by assumption)) | (simp; done) | (simp; omega))) | with_reducible refine Below.drew ?_ | with_reducible refine below_drewN ?_ _ | (with_reducible refine below_step (by assumption) ?side ?_; case side => (first | omega | (with_reducible exact Below.size (by assumption)) | (simp; done) | (simp; omega))))
          clear hWq
          have x1q := (hbq.cell (p := ⟨b1, o1 + k, none⟩) hb1).trans x1
          have zq := hbq.size
          have bq : Below w2.heap.size w2 Wq := hb.trans (hbq.mono zb)
          have HOq := Lib.hid (HO.out.later hbq)
          have I1q := Lib.hid (I1.out.later hbq)
          go_wp2_with (at_builtin; go_must (refine wpList_append_T _ (d := (⟨none, 0, 0⟩ : Hd)) rfl (.tmp 51) (.tmp 56) _ rfl w2.heap.size _ 1 24 slcE encH_len encH_one (Value.slice (some ⟨b3, o3, none⟩) L.length c3) (Value.slice (some ⟨b3, o3, none⟩) L.length c3).ownBlock (L.length) hs rfl rfl ?_ _ 1 _ [h1] rfl ?_ ?_ ?_ ?_; (exact HOq.out.own.alloc _); (exact sl_new encH_len rfl rfl rfl); (focus (first | omega | simp)); (focus (simp only [World.size_alloc]; omega)); (intro v' w6 hown6 hg6 hat6; have hb6 : Below w2.heap.size w2 w6 := (Below.grown (by (repeat first | with_reducible assumption | with_reducible exact Below.refl _ _ | (with_reducible refine Below.alloc ?_ ?side _; case side => (first | omega | (with_reducible exact Below.size (by assumption)) | (simp; done) | (simp; omega))) | (with_reducible refine Below.setCell ?_ ?side _; case side => (first | omega | (with_reducible exact Below.size (by assumption)) | (simp; done) | (simp; omega))) | with_reducible refine Below.drew ?_ | with_reducible refine below_drewN ?_ _ | (with_reducible refine below_step (by assumption) ?side ?_; case side => (first | omega | (with_reducible exact Below.size (by assumption)) | (simp; done) | (simp; omega))))) hg6 (by simp only [World.size_alloc]; omega) (own_ge HOq.out.own)); have HP := Lib.hid (HOq.out.push I1q.out (fun a e => ⟨fun e' => (by have h2 := (HOq.out.own.lt _ e').1; have h3 := BD1.out a e; omega), (by have h3 := BD1.out a e; omega)⟩) hown6 hg6 hat6); clear hown6 hg6 hat6)))
          refine ⟨⟨k + 1, by omega, by go_num, ⟨hs ++ [h1], ?_⟩, hb6⟩, by simp [intOf]; omega⟩
          rw [HY.out, List.length_append, lists_app]
          exact HP
        · rw [if_neg (by omega), if_neg (by omega)] at hsu
          have HY := Lib.hid hsu
          have t1 : decide (h1.n < h3.n) = false := by simp; omega
          have t2 : decide ((h1.n : Int) < (h3.n : Int)) = false := by simp; omega
          have t3 : (h1.n == h3.n) = false := by simp; omega
          have t4 : ((h1.n : Int) == (h3.n : Int)) = false := by simp; omega
          clear hsu hc
          go_wp2_with fail
          go_quiet (fail)
          go_wp2_with fail
          go_quiet (fail)
          go_wp2_with fail
          refine ⟨⟨k + 1, by omega, by go_num, ⟨hs, ?_⟩, by (repeat first | with_reducible assumption | with_reducible exact Below.refl _ _ | (with_reducible refine Below.alloc ?_ ?side _; case side => (first | omega | (with_reducible exact Below.size (by assumption)) | (simp; done) | (simp; omega))) | (with_reducible refine Below.setCell ?_ ?side _; case side => (first | omega | (with_reducible exact Below.size (by assumption)) | (simp; done) | (simp; omega))) | with_reducible refine Below.drew ?_ | with_reducible refine below_drewN ?_ _ | (with_reducible refine below_step (by assumption) ?side ?_; case side => (first | omega | (with_reducible exact Below.size (by assumption)) | (simp; done) | (simp; omega))))⟩, by simp [intOf]; omega⟩
          rw [HY.out]
          exact Lib.hid (HO.out.later (by (repeat first | with_reducible assumption | with_reducible exact Below.refl _ _ | (with_reducible refine Below.alloc ?_ ?side _; case side => (first | omega | (with_reducible exact Below.size (by assumption)) | (simp; done) | (simp; omega))) | (with_reducible refine Below.setCell ?_ ?side _; case side => (first | omega | (with_reducible exact Below.size (by assumption)) | (simp; done) | (simp; omega))) | with_reducible refine Below.drew ?_ | with_reducible refine below_drewN ?_ _ | (with_reducible refine below_step (by assumption) ?side ?_; case side => (first | omega | (with_reducible exact Below.size (by assumption)) | (simp; done) | (simp; omega))))))
    · obtain rfl : k = m := by omega
      have hknB : decide (((k : Nat) : Int) < k) = false := by simp
      rcases HE.out with ⟨e, rfl⟩ | ⟨e, rfl⟩
      · have HEq := Lib.hid e
        have hz : (((rsK n S k).length : Int) == 0) = true := by rw [e]; rfl
        clear e
        go_wp2_with fail
        exact bodyPost_ret (v := .tuple #[.slice none 0 0, .int .i64 3]) (by simp [results, Try.results60, go_sem]) rfl (by show SsRet (rsK n S k) n 3 w _ _; rw [HEq.out]; exact ⟨none, 0, [], rfl, SsAt.nil _, by (repeat first | with_reducible assumption | with_reducible exact Below.refl _ _ | (with_reducible refine Below.alloc ?_ ?side _; case side => (first | omega | (with_reducible exact Below.size (by assumption)) | (simp; done) | (simp; omega))) | (with_reducible refine Below.setCell ?_ ?side _; case side => (first | omega | (with_reducible exact Below.size (by assumption)) | (simp; done) | (simp; omega))) | with_reducible refine Below.drew ?_ | with_reducible refine below_drewN ?_ _ | (with_reducible refine below_step (by assumption) ?side ?_; case side => (first | omega | (with_reducible exact Below.size (by assumption)) | (simp; done) | (simp; omega))))⟩)
      · have hpos := List.length_pos_iff.2 e
        have hz : (((rsK n S k).length : Int) == 0) = false := by simp; omega
        obtain ⟨g, hg⟩ : ∃ g, (rsK n S k).length = g := ⟨_, rfl⟩
        rw [hg] at hpos HS3 hz ⊢
        have HG := Lib.hid hg
        clear e hle hg
        go_wp2_with fail
        exact bodyPost_ret (v := .tuple #[.slice A3 g c3, .int .i64 0]) (by simp [results, Try.results60, go_sem]) rfl (by show SsRet (rsK n S k) n 0 w _ _; exact ⟨A3, c3, hs, by rw [HG.out], by rw [HG.out]; exact HS3.out, by (repeat first | with_reducible assumption | with_reducible exact Below.refl _ _ | (with_reducible refine Below.alloc ?_ ?side _; case side => (first | omega | (with_reducible exact Below.size (by assumption)) | (simp; done) | (simp; omega))) | (with_reducible refine Below.setCell ?_ ?side _; case side => (first | omega | (with_reducible exact Below.size (by assumption)) | (simp; done) | (simp; omega))) | with_reducible refine Below.drew ?_ | with_reducible refine below_drewN ?_ _ | (with_reducible refine below_step (by assumption) ?side ?_; case side => (first | omega | (with_reducible exact Below.size (by assumption)) | (simp; done) | (simp; omega))))⟩)
set_option maxRecDepth 100000 in
set_option maxHeartbeats 1600000 in
theorem refFewest_c (A : Option Addr) (n c : Nat) (q : Cb) (ls : List Sp) (w : World) (hn : n ≤ 40) (HL : SpsAt w A n ls) :
    Calls Try.prog 36 #[.agg #[.slice A n c, .int .i64 q.need, .int .i64 q.gap, .int .i64 q.doubt, .int .i64 q.joins, .int .i64 q.least]] w fun e w' => e = .returned (.tuple #[.int .i64 ((plC n ls q).length : Nat), .int .i64 (erS n ls q)]) ∧ Below w.heap.size w w' := by
  have hsh : ∀ V, Below w.heap.size w V → Calls Try.prog 60 #[.agg #[.slice A n c, .int .i64 q.need, .int .i64 q.gap, .int .i64 q.doubt, .int .i64 q.joins, .int .i64 q.least]] V (SsRet (shC n ls q) n (erS n ls q) V) := fun V hV => refshortest_c A n c q ls V hn (HL.later hV)
  have hcase : (∃ z, z ≠ 0 ∧ erS n ls q = z ∧ shC n ls q = [] ∧ (plC n ls q).length = 0) ∨ ∃ y r, erS n ls q = 0 ∧ shC n ls q = y :: r ∧ plC n ls q = memN y n := by
    rcases er_shC n ls q with ⟨h, a, b⟩ | ⟨h, a, b, d⟩ | ⟨-, a, b, y, r, d, e⟩
    · exact .inl ⟨70, by omega, a, b, by unfold plC; rw [h]; rfl⟩
    · exact .inl ⟨3, by omega, a, b, by unfold plC; rw [h, d]; rfl⟩
    · exact .inr ⟨y, r, a, b.trans d, e⟩
  rcases hcase with ⟨z, hz, a, b, e⟩ | ⟨y, r, a, b, e⟩
  · rw [a, b] at hsh
    rw [a, e]
    have hzB : (z != 0) = true := by simpa using hz
    replace hsh := Lib.hid hsh
    clear HL hz a b e
    go_enter Try.func36, Try.ntmps36
    go_wp2_with fail
    refine (hsh.out _ (by (repeat first | with_reducible assumption | with_reducible exact Below.refl _ _ | (with_reducible refine Below.alloc ?_ ?side _; case side => (first | omega | (with_reducible exact Below.size (by assumption)) | (simp; done) | (simp; omega))) | (with_reducible refine Below.setCell ?_ ?side _; case side => (first | omega | (with_reducible exact Below.size (by assumption)) | (simp; done) | (simp; omega))) | with_reducible refine Below.drew ?_ | with_reducible refine below_drewN ?_ _ | (with_reducible refine below_step (by assumption) ?side ?_; case side => (first | omega | (with_reducible exact Below.size (by assumption)) | (simp; done) | (simp; omega)))))).mono ?_
    rintro e w1 ⟨A1, c1, hs, rfl, -, hb1⟩
    go_wp2
    exact bodyPost_ret (v := .tuple #[.int .i64 (0 : Nat), .int .i64 z]) (by simp [results, Try.results36, go_sem]) rfl ⟨rfl, by (repeat first | with_reducible assumption | with_reducible exact Below.refl _ _ | (with_reducible refine Below.alloc ?_ ?side _; case side => (first | omega | (with_reducible exact Below.size (by assumption)) | (simp; done) | (simp; omega))) | (with_reducible refine Below.setCell ?_ ?side _; case side => (first | omega | (with_reducible exact Below.size (by assumption)) | (simp; done) | (simp; omega))) | with_reducible refine Below.drew ?_ | with_reducible refine below_drewN ?_ _ | (with_reducible refine below_step (by assumption) ?side ?_; case side => (first | omega | (with_reducible exact Below.size (by assumption)) | (simp; done) | (simp; omega))))⟩
  · rw [a, b] at hsh
    rw [a, e]
    have hcl : (memN y n).length = cntN y n := rfl
    rw [hcl]
    replace hsh := Lib.hid hsh
    clear HL a b e hcl
    go_enter Try.func36, Try.ntmps36
    go_wp2_with fail
    refine (hsh.out _ (by (repeat first | with_reducible assumption | with_reducible exact Below.refl _ _ | (with_reducible refine Below.alloc ?_ ?side _; case side => (first | omega | (with_reducible exact Below.size (by assumption)) | (simp; done) | (simp; omega))) | (with_reducible refine Below.setCell ?_ ?side _; case side => (first | omega | (with_reducible exact Below.size (by assumption)) | (simp; done) | (simp; omega))) | with_reducible refine Below.drew ?_ | with_reducible refine below_drewN ?_ _ | (with_reducible refine below_step (by assumption) ?side ?_; case side => (first | omega | (with_reducible exact Below.size (by assumption)) | (simp; done) | (simp; omega)))))).mono ?_
    rintro e w1 ⟨A1, c1, hs, rfl, hss, hb1⟩
    obtain ⟨b3, o3, rfl, hb3, x3, i3⟩ := hss.get (show 0 < (y :: r).length by simp)
    replace x3 : w1.cell? ⟨b3, o3, none⟩ = _ := x3
    rw [lists_at (show 0 < (y :: r).length by simp)] at i3
    have hlen3 : cntN y n = (hAt hs 0).n := by have := i3.1; rw [ints_len] at this; exact this
    obtain ⟨h3, hh3⟩ : ∃ h, hAt hs 0 = h := ⟨_, rfl⟩
    rw [hh3] at x3 hlen3
    have HL3 := Lib.hid hlen3
    have hpos : 0 < (y :: r).length := by simp
    obtain ⟨L, hL⟩ : ∃ L, (y :: r).length = L := ⟨_, rfl⟩
    rw [hL] at hpos ⊢
    clear hss i3 hh3 hlen3 hL
    go_wp2
    exact bodyPost_ret (v := .tuple #[.int .i64 (h3.n : Nat), .int .i64 0]) (by simp [results, Try.results36, go_sem]) rfl ⟨by rw [HL3.out], by (repeat first | with_reducible assumption | with_reducible exact Below.refl _ _ | (with_reducible refine Below.alloc ?_ ?side _; case side => (first | omega | (with_reducible exact Below.size (by assumption)) | (simp; done) | (simp; omega))) | (with_reducible refine Below.setCell ?_ ?side _; case side => (first | omega | (with_reducible exact Below.size (by assumption)) | (simp; done) | (simp; omega))) | with_reducible refine Below.drew ?_ | with_reducible refine below_drewN ?_ _ | (with_reducible refine below_step (by assumption) ?side ?_; case side => (first | omega | (with_reducible exact Below.size (by assumption)) | (simp; done) | (simp; omega))))⟩

end Go.Proofs.Ythjjakhmbgnnnaa
