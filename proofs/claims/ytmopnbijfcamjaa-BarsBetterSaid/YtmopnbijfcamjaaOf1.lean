/- Of of bars (layer 1). -/
import Derived.BigRegionIn
import Derived.Shelf.RegionOpen
import Derived.Handy
import Derived.Test.YtmopnbijfcamjaaAl1
import Derived.Test.YtmopnbijfcamjaaFw1
import Derived.Test.YtmopnbijfcamjaaQs
namespace Go.Proofs.Ytmopnbijfcamjaa
open Go.RowKit
open Go.Sort (grow)
set_option linter.unusedVariables false

attribute [local go_sem] Oper.semAt_some
/-- how many sawings of the first k have the piece of each bar -/
def fdL (nb pn : Nat) (T : List Sw) (k : Nat) : List Int := (List.range nb).map fun (j : Nat) => (cntL (fun x => iAt x.of pn == (j : Int)) T k : Int)
theorem fdL_len (nb pn : Nat) (T : List Sw) (k : Nat) : (fdL nb pn T k).length = nb := by simp [fdL]
theorem fdL_at {nb pn : Nat} {T : List Sw} {k j : Nat} (hj : j < nb) : iAt (fdL nb pn T k) j = (cntL (fun x => iAt x.of pn == (j : Int)) T k : Int) := by
  unfold iAt fdL
  rw [List.getD_eq_getElem?_getD, List.getElem?_map, List.getElem?_range hj]
  rfl
theorem fdL_0 (nb pn : Nat) (T : List Sw) : fdL nb pn T 0 = List.replicate nb 0 := by
  apply List.ext_getElem?
  intro j
  unfold fdL
  rw [List.getElem?_map, List.getElem?_replicate]
  by_cases hj : j < nb
  · rw [List.getElem?_range hj, if_pos hj]
    simp [cntL_0]
  · rw [List.getElem?_eq_none (by simpa using hj), if_neg hj]; rfl
theorem fdL_succ {nb pn : Nat} {T : List Sw} {k bar : Nat} {x : Sw} (h : T[k]? = some x) (hb : iAt x.of pn = (bar : Int)) (hl : bar < nb) : fdL nb pn T (k + 1) = (fdL nb pn T k).set bar (iAt (fdL nb pn T k) bar + 1) := by
  apply List.ext_getElem?
  intro j
  rw [List.getElem?_set]
  by_cases hj : j < nb
  · have e1 : ∀ q, (fdL nb pn T q)[j]? = some ((cntL (fun x => iAt x.of pn == (j : Int)) T q : Int)) := fun q => by
      unfold fdL
      rw [List.getElem?_map, List.getElem?_range hj]; rfl
    rw [e1, e1, cntL_succ h, hb]
    by_cases e : bar = j
    · subst e
      rw [if_pos rfl, if_pos (by rw [fdL_len]; exact hl), fdL_at hl]
      simp
    · rw [if_neg e]
      have : ((bar : Int) == (j : Int)) = false := by simp; omega
      rw [this]; simp
  · rw [List.getElem?_eq_none (by rw [fdL_len]; omega), if_neg (by omega), List.getElem?_eq_none (by rw [fdL_len]; omega)]
theorem swL_of_bar {bs : List Br} {ps : List Pc} {kf wr : Int} {nb : Nat} : ∀ (p : Nat) (st x : Sw), (∀ v ∈ st.of, ∃ b : Nat, b < nb ∧ v = (b : Int)) → x ∈ swL bs ps kf wr nb p st → ∀ v ∈ x.of, ∃ b : Nat, b < nb ∧ v = (b : Int) := by
  intro p
  induction p with
  | zero => intro st x h0 h; simp [swL] at h; rw [h]; exact h0
  | succ p ih =>
    intro st x h0 h
    rw [swL_succ, swK, List.mem_flatMap] at h
    obtain ⟨bar, hbar, h⟩ := h
    cases e : tkS bs ps kf wr st bar <;> rw [e] at h
    · simp at h
    · refine ih _ x (fun v hv => ?_) h
      simp only [stS, List.mem_append, List.mem_singleton] at hv
      rcases hv with hv | rfl
      · exact h0 v hv
      · exact ⟨bar, by simpa using hbar, rfl⟩
theorem iAt_mem {l : List Int} {k : Nat} (h : k < l.length) : iAt l k ∈ l := by
  unfold iAt
  rw [List.getD_eq_getElem?_getD, List.getElem?_eq_getElem h]
  exact List.getElem_mem h
theorem swA_of_bar {bs : List Br} {ps : List Pc} {kf wr : Int} {x : Sw} {k : Nat} (h : x ∈ swA bs ps kf wr) (hk : k < ps.length) : ∃ b : Nat, b < bs.length ∧ iAt x.of k = (b : Int) :=
  swL_of_bar _ _ x (by simp [sw0]) h _ (iAt_mem (by rw [swA_of_len h]; exact hk))
def ofL (nb pn : Nat) (T : List Sw) (k : Nat) : List Int := ((List.range k).filter fun (j : Nat) => decide (0 < T.countP fun x => iAt x.of pn == (j : Int))).map fun (j : Nat) => (j : Int)
theorem ofL_len (nb pn : Nat) (T : List Sw) (k : Nat) : (ofL nb pn T k).length ≤ k := by
  unfold ofL
  rw [List.length_map]
  exact Nat.le_trans (List.length_filter_le _ _) (by simp)
theorem ofL_yes {nb pn : Nat} {T : List Sw} {k : Nat} (h : 0 < T.countP fun x => iAt x.of pn == (k : Int)) : ofL nb pn T (k + 1) = ofL nb pn T k ++ [(k : Int)] := by
  unfold ofL
  generalize hq : (fun (j : Nat) => decide (0 < T.countP fun x => iAt x.of pn == (j : Int))) = q
  have hqk : q k = true := by rw [← hq]; exact decide_eq_true h
  rw [List.range_succ, List.filter_append, List.map_append]; simp [hqk]
theorem ofL_no {nb pn : Nat} {T : List Sw} {k : Nat} (h : ¬ 0 < T.countP fun x => iAt x.of pn == (k : Int)) : ofL nb pn T (k + 1) = ofL nb pn T k := by
  unfold ofL
  generalize hq : (fun (j : Nat) => decide (0 < T.countP fun x => iAt x.of pn == (j : Int))) = q
  have hqk : q k = false := by rw [← hq]; exact decide_eq_false h
  rw [List.range_succ, List.filter_append, List.map_append]; simp [hqk]
def ofP (bs : List Br) (ps : List Pc) (kf wr piece : Int) : List Int := bif askE bs ps kf wr (wi piece 0 ((ps.length : Int) - 1)) == 0 then ofL bs.length piece.toNat (swA bs ps kf wr) bs.length else []
set_option maxRecDepth 100000 in
set_option maxHeartbeats 3200000 in
theorem of_c (Ab Ap : Option Addr) (nb cb np cp : Nat) (kf wrg piece : Int) (bs : List Br) (ms : List Pm) (ps : List Pc) (w : World) (h1 : nb ≤ 40) (h2 : np ≤ 40) (h3 : ∀ k, k < np → (pcAt ps k).hs.length ≤ 40) (HB : BrsAt w Ab nb bs) (HP : PcsAt w Ap np ms ps) :
    Calls Try.prog 19 #[.agg #[.slice Ab nb cb, .int .i64 kf, .slice Ap np cp, .int .i64 wrg], .int .i64 piece] w fun e w' => ∃ v, e = .returned (.tuple #[v, .int .i64 (askE bs ps kf wrg (wi piece 0 ((np : Int) - 1)))]) ∧ w'.ownsRow w.heap.size 3 1 v (ofP bs ps kf wrg piece).length ((ofP bs ps kf wrg piece).flatMap encI) ∧ Below w.heap.size w w' := by
  have HBI := Lib.hid HB
  have HPI := Lib.hid HP
  have hBl := HB.1
  have hPl := HP.pl
  have HOK := Lib.hid (fun h => okSt_of (kf := kf) (wr := wrg) hBl hPl h3 h)
  obtain ⟨is, his⟩ : ∃ is, wi piece 0 ((np : Int) - 1) = is := ⟨_, rfl⟩
  have htr := fun W (hb : Below w.heap.size w W) => truths_c Ab Ap nb cb np cp kf wrg is bs ms ps W h1 h2 h3 (HB.later hb) (HP.later hb)
  obtain ⟨z, hz⟩ : ∃ z, askE bs ps kf wrg is = z := ⟨_, rfl⟩
  rw [hz] at htr
  have HIS := Lib.hid his
  replace htr := Lib.hid htr
  clear HB HP h3
  have hR : ofP bs ps kf wrg piece = bif z == 0 then ofL nb piece.toNat (swA bs ps kf wrg) nb else [] := by unfold ofP; rw [hBl, hPl, his, hz]
  rw [hR, his, hz]
  have hpb := fun W => isPiece_c Ab Ap nb cb np cp kf wrg piece W h1 h2
  rw [his] at hpb
  replace hpb := Lib.hid hpb
  by_cases hz0 : z = 0
  · subst hz0
    obtain ⟨hck, his1, -⟩ := askE_0 hz
    subst his1
    obtain ⟨ok, hw0, hw8⟩ := HOK.out hck
    have hlb := wi_true.1 his
    have OK := Lib.hid ok
    obtain ⟨pn, hpn⟩ : ∃ n : Nat, piece = (n : Int) := ⟨piece.toNat, by omega⟩
    subst hpn
    have hpnp : pn < np := by omega
    rw [Int.toNat_natCast]
    have hle := swA_len (wr := wrg) ok
    have HBAR := Lib.hid (fun x (hx : x ∈ swA bs ps kf wrg) => by have := swA_of_bar (k := pn) hx (by rw [hPl]; exact hpnp); rw [hBl] at this; exact this)
    have HPL := Lib.hid hPl
    obtain ⟨T, hT⟩ : ∃ T, swA bs ps kf wrg = T := ⟨_, rfl⟩
    rw [hT] at hle HBAR ⊢
    have HT := Lib.hid hT
    have hnb6 := ok.hb
    clear hR hz hck ok HOK hBl hPl his hlb HIS hT
    refine (callsIn_wide (n := 6)).1 (callsIn_of_wp_marks Try.func19 rfl trivial ?_ rfl)
    simp only [Try.ntmps19, List.size_toArray, List.length_cons, List.length_nil, Nat.reduceAdd, Nat.reduceSub, Array.replicate_succ, Array.replicate_zero, List.push_toArray, List.append_toArray, List.nil_append, List.cons_append]
    gi_wp2_with fail
    refine wpIn_wide.2 ?_
    go_name_world X hX
    have BX : Below w.heap.size w X := (al2 hX).1
    have zX : X.heap.size = w.heap.size + 2 := (al2 hX).2
    have P0 := (al2_0 hX).2.1
    have P1 := (al2_1 hX).2.1 0
    have lX : w.heap.size < X.heap.size := by omega
    have lX1 : w.heap.size + 1 < X.heap.size := by omega
    clear hX
    go_region_held3 (fun w' => (∀ j, w'.cell? ⟨w.heap.size, j, none⟩ = #[Value.slice Ab nb cb, .int .i64 kf, .slice Ap np cp, .int .i64 wrg][j]?) ∧ w'.cell? ⟨w.heap.size + 1, 0, none⟩ = some (.int .i64 pn))
      (first | exact ⟨P0, P1⟩ | exact ⟨fun j => (kb2.cell (p := ⟨w.heap.size, j, none⟩) lX).trans (P0 j), (kb2.cell (p := ⟨w.heap.size + 1, 0, none⟩) lX1).trans P1⟩ | exact ⟨fun j => (kb.cell (p := ⟨w.heap.size, j, none⟩) lX).trans (P0 j), (kb.cell (p := ⟨w.heap.size + 1, 0, none⟩) lX1).trans P1⟩ | go_keep)
      ((first | (go_at_call 57; refine (hpb.out _).mono ?_; (rintro e w5 ⟨rfl, hb5⟩); have kb : Below X.heap.size X w5 := Below.trans (by (repeat first | with_reducible assumption | with_reducible exact Below.refl _ _ | (with_reducible refine Below.alloc ?_ ?side _; case side => (first | omega | (with_reducible exact Below.size (by assumption)) | (simp; done) | (simp; omega))) | (with_reducible refine Below.setCell ?_ ?side _; case side => (first | omega | (with_reducible exact Below.size (by assumption)) | (simp; done) | (simp; omega))) | with_reducible refine Below.drew ?_ | with_reducible refine below_drewN ?_ _ | (with_reducible refine below_step (by assumption) ?side ?_; case side => (first | omega | (with_reducible exact Below.size (by assumption)) | (simp; done) | (simp; omega))))) (hb5.mono (by simp))) | (go_at_call 56; refine (htr.out _ (by (repeat first | with_reducible assumption | with_reducible exact Below.refl _ _ | (with_reducible refine Below.alloc ?_ ?side _; case side => (first | omega | (with_reducible exact Below.size (by assumption)) | (simp; done) | (simp; omega))) | (with_reducible refine Below.setCell ?_ ?side _; case side => (first | omega | (with_reducible exact Below.size (by assumption)) | (simp; done) | (simp; omega))) | with_reducible refine Below.drew ?_ | with_reducible refine below_drewN ?_ _ | (with_reducible refine below_step (by assumption) ?side ?_; case side => (first | omega | (with_reducible exact Below.size (by assumption)) | (simp; done) | (simp; omega)))))).mono ?_; (rintro e w6 ⟨f, rfl, hb6, hf6, -⟩); have kb2 : Below X.heap.size X w6 := Below.trans kb (hb6.mono kb.size))))
    all_goals
      obtain ⟨b1, b2, rfl, p1, p2, hne, hM⟩ := hf6 trivial
      have R6 := Lib.hid (RgB.of hM kb2)
      have z6 := kb2.size
      have P0' := fun j => (kb2.cell (p := ⟨w.heap.size, j, none⟩) lX).trans (P0 j)
      have n60 : w.heap.size < w6.heap.size := by omega
      have l61 := hM.k1.lt
      have l62 := hM.k2.lt
      have q1 : X.heap.size ≤ b1 := Nat.le_trans kb.size p1
      have q2 : X.heap.size ≤ b2 := Nat.le_trans kb.size p2
      have hmk := fun W => mk_ints W nb (by omega)
      clear hf6 hM hb6 hb5 p1 p2
      gi_wp2
      obtain ⟨W3, hW3⟩ : ∃ W3, (w6.alloc (.cells (mkC nb) 3)).alloc (.cells #[.slice (some ⟨w6.heap.size, 0, none⟩) nb nb] 32) = W3 := ⟨_, rfl⟩
      rw [hW3]
      have B3 : Below w6.heap.size w6 W3 := (al2 hW3).1
      have z3 : W3.heap.size = w6.heap.size + 2 := (al2 hW3).2
      have R3 := Lib.hid (R6.out.later B3)
      have HO3 := Lib.hid (by rw [← hW3, fdL_0]; exact own_below (mk_own w6 nb (by omega)) ((Below.refl _ _).alloc (by simp) _) : W3.ownsRow w6.heap.size 3 1 (.slice (some ⟨w6.heap.size, 0, none⟩) nb nb) nb ((fdL nb pn T 0).flatMap encI))
      have K8 := Lib.hid (by rw [← hW3]; have h := Blk.new (w6.alloc (.cells (mkC nb) 3)) 32 #[.slice (some ⟨w6.heap.size, 0, none⟩) nb nb]; simp only [World.size_alloc] at h; exact h : Blk W3 (w6.heap.size + 1) 32 #[.slice (some ⟨w6.heap.size, 0, none⟩) nb nb])
      clear hW3 hmk P0'
      have en := enters_of Try.func82 (by kernel_rfl) rfl
      refine wpIn_rangeS (gf := 82) (fst := #[]) (lb := #[.pointer (some ⟨b1, 0, none⟩), .pointer (some ⟨b2, 0, none⟩)]) rfl en (sawings1_c b1 b2 Ab Ap nb cb np cp kf wrg wrg bs ms ps OK.out ⟨hw0, hw8⟩) rfl
        (fun b k W => RgB X b1 b2 Ab Ap nb cb np cp kf wrg wrg W ∧ Blk W (w6.heap.size + 1) 32 #[.slice (some ⟨w6.heap.size, 0, none⟩) nb nb] ∧ W.ownsRow w6.heap.size 3 1 (.slice (some ⟨w6.heap.size, 0, none⟩) nb nb) nb ((fdL nb pn T k).flatMap encI))
        (fun c W => False) ?hI ?hIx ?hmem ?h0 ?hround ?hdone ?hstop
      case hI =>
        rintro b k W W' hb ⟨a1, a2, a3⟩ ht
        exact ⟨a1.tameB ht (by omega) (by omega) (by omega) (by omega), ht.blk a2 (by omega), ht.own a3 (fun e => by simp [Value.ownBlock] at e; omega)⟩
      case hIx => exact fun c W W' h => h.elim
      case hmem => exact fun b k W hb h => h.1.mem (HBI.out.later BX) (HPI.out.later BX)
      case h0 => exact fun b W hb h => ⟨R3.out.later h, K8.out.below h K8.out.lt, own_below HO3.out h⟩
      case hround =>
        rintro l b k x W hl hb hx ⟨a1, a2, a3⟩ hat
        rw [HT.out] at hx
        have hkN : k < T.length := (List.getElem?_eq_some_iff.1 hx).1
        obtain ⟨bar, hbar, hbv⟩ := HBAR.out x (List.mem_of_getElem? hx)
        have hxl := swA_of_len (x := x) (bs := bs) (ps := ps) (kf := kf) (wr := wrg) (by rw [HT.out]; exact List.mem_of_getElem? hx)
        rw [HPL.out] at hxl
        have HS := Lib.hid (fdL_succ hx hbv hbar)
        have hva := fdL_at (pn := pn) (T := T) (k := k) hbar
        have hvl := cntL_le (fun x => iAt x.of pn == (bar : Int)) T k
        obtain ⟨m, hm⟩ : ∃ m, cntL (fun x => iAt x.of pn == (bar : Int)) T k = m := ⟨_, rfl⟩
        rw [hm] at hva hvl
        rw [hva] at HS
        have HVA := Lib.hid hva
        have A1 := Lib.hid a1
        have A2 := Lib.hid a2
        have A3 := Lib.hid a3
        have AT := Lib.hid hat
        clear a1 a2 a3 hat hx hm hva
        gi_wp2
        refine ⟨KeepsFrom.refl _ _, KeepC.refl _ _, fun W2 ht => ?_⟩
        have B1 := Lib.hid (A1.out.tame ht (by omega))
        have B2 := Lib.hid (A2.out.tame ht)
        have B3' := Lib.hid (ht.own A3.out)
        obtain ⟨A1', c1', A2', c2', A3', c3', hbk, -, -, ⟨hI1, -⟩, -⟩ := (AT.out.tame ht).ex
        rw [hxl] at hI1 hbk
        obtain ⟨g, o, rfl, hg, x1⟩ := hI1.get hpnp
        rw [hbv] at x1
        have x2 := own_int_get B3'.out (fdL_len _ _ _ _) hbar
        rw [HVA.out] at x2
        have f2 := B3'.out.frozenAt bar
        have c8 := B2.out.cell 0
        have cb1 := hbk.cell
        have hlb := hbk.lt
        have lt8 := B2.out.lt
        have lt6 : w6.heap.size < W2.heap.size := by omega
        have pb := (B1.out.bw.cell (p := ⟨w.heap.size + 1, 0, none⟩) lX1).trans P1
        have z2 := B1.out.bw.size
        have lt1 : w.heap.size + 1 < W2.heap.size := by omega
        have zt := ht.size
        have hpB : decide ((pn : Int) < np) = true := by simp; omega
        have hbB : decide ((bar : Int) < nb) = true := by simp; omega
        have hw : IntKind.i64.wrap ((m : Int) + 1) = (m : Int) + 1 := IntWalk.i64_in _ (by omega)
        clear ht hbk hI1 hbv
        gi_wp2
        have hcq := fun p : Regrown => (bcell (below_regrown W2 p.d p.os)).1
        refine wpIn_region_quiet_then (.inr ⟨_, rfl⟩) (by kernel_rfl) (by simp only [List.dropLast]; rfl) (by rfl) (by kernel_rfl) (by kernel_rfl) ?_
        repeat (go_big_quiet_step ((fail)))
        refine wpQuiet_nil ?_
        intro wq hq
        obtain ⟨pq, hq⟩ := hq
        have hbq : Below W2.heap.size W2 wq := by rw [hq]; exact below_regrown _ _ _
        clear hq hcq pq
        obtain ⟨hcq, hfq⟩ := bcell hbq
        have zq := hbq.size
        have C1 := Lib.hid (B1.out.later hbq)
        have C2 := Lib.hid (B2.out.below hbq lt8)
        have C3 := Lib.hid (own_below B3'.out hbq)
        have x2' := (hcq _ bar lt6).trans x2
        have f2' := (hfq _ bar lt6).trans f2
        clear x1 x2 f2 cb1 hcq hfq c8 pb
        gi_wp2
        exact ⟨by (repeat first | with_reducible assumption | with_reducible exact KeepsFrom.refl _ _ | with_reducible refine keeps_setCell ?_ _ _ | with_reducible refine keeps_alloc ?_ _ | with_reducible refine keeps_drew ?_ | with_reducible refine keeps_drewN ?_ _ | with_reducible refine keeps_step (by assumption) (Nat.le_refl _) ?_), (KeepC.of_below hbq).trans (.set (by show w6.heap.size < _; omega) _), C1.out.set (by show X.heap.size ≤ w6.heap.size; omega) (by show b1 ≠ w6.heap.size; omega) (by show b2 ≠ w6.heap.size; omega) _, C2.out.far (by show w6.heap.size + 1 ≠ w6.heap.size; omega) _, by rw [HS.out]; exact own_int_set C3.out (fdL_len _ _ _ _) hbar ((m : Int) + 1)⟩
      case hdone =>
        rintro D b W hD hb ⟨a1, a2, a3⟩ hK
        rw [HT.out] at a3
        have c8 := a2.cell 0
        have HO := Lib.hid a3
        have zz := a1.bw.size
        have hbw := BX.trans (a1.bw.mono (by omega))
        clear a1 a2 a3
        gi_wp2
        clear R6 R3 HO3 K8 HT HPL HBAR OK HBI HPI
        refine wpIn_wide.2 ?_
        have HKD := Lib.hid hK
        have zz' : w.heap.size ≤ W.heap.size := by omega
        have hDl : D < W.heap.size := (Array.getElem?_eq_some_iff.1 hK).1
        have hz36 : w6.heap.size < W.heap.size := by omega
        have own0 := Lib.hid (World.ownsRow_nil W W.heap.size 3 1)
        clear hK c8
        go_loopw [10, 44] (fun v i (wr : World) => ∃ k : Nat, k ≤ nb ∧ i = .int .i64 k ∧ Hid (wr.ownsRow W.heap.size 3 1 v (ofL nb pn T k).length ((ofL nb pn T k).flatMap encI)) ∧ Below W.heap.size W wr) (fun _ i _ => nb - (intOf i).toNat)
        case atStart => exact ⟨0, by omega, rfl, own0, Below.refl _ _⟩
        case round =>
          obtain ⟨k, hk, rfl, HOr, hb⟩ := hrel
          have zb := hb.size
          have hll := ofL_len nb pn T k
          by_cases hlt : k < nb
          · have hqB : decide ((k : Int) < nb) = true := by simp; omega
            have x0 := (hb.cell (p := ⟨w6.heap.size, k, none⟩) hz36).trans (own_int_get HO.out (fdL_len _ _ _ _) hlt)
            rw [fdL_at hlt, cntL_all] at x0
            have HY := Lib.hid (ofL_yes (nb := nb) (pn := pn) (T := T) (k := k))
            have HN := Lib.hid (ofL_no (nb := nb) (pn := pn) (T := T) (k := k))
            obtain ⟨m, hm⟩ : ∃ m, (T.countP fun x => iAt x.of pn == (k : Int)) = m := ⟨_, rfl⟩
            rw [hm] at x0 HY HN
            clear hm
            by_cases e1 : 0 < m
            · have e1B : decide ((0 : Int) < m) = true := by simp; omega
              have e1N : decide (0 < m) = true := by simp; omega
              have HYe := Lib.hid (HY.out e1)
              obtain ⟨n, hn⟩ : ∃ n, (ofL nb pn T k).length = n := ⟨_, rfl⟩
              rw [hn] at HOr hll
              have HN' := Lib.hid hn
              clear hn
              replace e1 := Lib.hid e1
              go_wp2_with (at_builtin; go_must (refine wpList_append_T _ (d := (0 : Int)) rfl (.tmp 51) (.tmp 53) _ rfl W.heap.size _ 1 8 intE encI_len encI_one u10 u10.ownBlock n (ofL nb pn T k) rfl rfl ?ow _ 1 _ [(k : Int)] rfl ?sl (by omega) ?sz ?_; (case ow => exact own_below HOr.out (by (repeat first | with_reducible assumption | with_reducible exact Below.refl _ _ | (with_reducible refine Below.alloc ?_ ?side _; case side => (first | omega | (with_reducible exact Below.size (by assumption)) | (simp; done) | (simp; omega))) | (with_reducible refine Below.setCell ?_ ?side _; case side => (first | omega | (with_reducible exact Below.size (by assumption)) | (simp; done) | (simp; omega))) | with_reducible refine Below.drew ?_ | with_reducible refine below_drewN ?_ _ | (with_reducible refine below_step (by assumption) ?side ?_; case side => (first | omega | (with_reducible exact Below.size (by assumption)) | (simp; done) | (simp; omega)))))); (case sl => exact sl_new encI_len (by first | rfl | simp) rfl rfl); (case sz => go_size); (rintro v8 w8 ho8 hg8 ha8); (have hb8 : Below W.heap.size wr w8 := Below.grown (by (repeat first | with_reducible assumption | with_reducible exact Below.refl _ _ | (with_reducible refine Below.alloc ?_ ?side _; case side => (first | omega | (with_reducible exact Below.size (by assumption)) | (simp; done) | (simp; omega))) | (with_reducible refine Below.setCell ?_ ?side _; case side => (first | omega | (with_reducible exact Below.size (by assumption)) | (simp; done) | (simp; omega))) | with_reducible refine Below.drew ?_ | with_reducible refine below_drewN ?_ _ | (with_reducible refine below_step (by assumption) ?side ?_; case side => (first | omega | (with_reducible exact Below.size (by assumption)) | (simp; done) | (simp; omega))))) hg8 (by go_size) (own_ge HOr.out)); (have HO8 := Lib.hid ho8); (clear ho8 hg8 ha8)))
              go_roundw
              case rel => exact ⟨k + 1, by omega, by go_num, by show World.ownsRow _ _ _ _ _ _ _; rw [HYe.out, List.length_append, HN'.out]; exact HO8.out, hb.trans hb8⟩
              case measure => simp [intOf]; omega
            · have e1B : decide ((0 : Int) < m) = false := by simp; omega
              have e1N : decide (0 < m) = false := by simp; omega
              have HNe := Lib.hid (HN.out e1)
              replace e1 := Lib.hid e1
              go_wp2
              go_roundw
              case rel => exact ⟨k + 1, by omega, by go_num, by show World.ownsRow _ _ _ _ _ _ _; rw [HNe.out]; exact HOr.out, hb⟩
              case measure => simp [intOf]; omega
          · obtain rfl : nb = k := by omega
            have hqB : decide (((nb : Nat) : Int) < nb) = false := by simp
            go_wp2
            gi_wp2
            have hKW := (hb.block D hDl).trans HKD.out
            have hbww := hbw.trans (hb.mono zz')
            have zz9 := hbww.size
            refine leave_mark (v := .tuple #[u10, .int .i64 0]) hKW (fun W' ht => ?_) (fun W' ht => ⟨_, rfl, own_mono (ht.own HOr.out) zz', ht.below (by omega) (by omega) (by (repeat first | with_reducible assumption | with_reducible exact Below.refl _ _ | (with_reducible refine Below.alloc ?_ ?side _; case side => (first | omega | (with_reducible exact Below.size (by assumption)) | (simp; done) | (simp; omega))) | (with_reducible refine Below.setCell ?_ ?side _; case side => (first | omega | (with_reducible exact Below.size (by assumption)) | (simp; done) | (simp; omega))) | with_reducible refine Below.drew ?_ | with_reducible refine below_drewN ?_ _ | (with_reducible refine below_step (by assumption) ?side ?_; case side => (first | omega | (with_reducible exact Below.size (by assumption)) | (simp; done) | (simp; omega)))))⟩)
            simp [results, Try.results19, go_sem]
      case hstop => exact fun D c W hD h => h.elim
  · have hz0B : (z != 0) = true := by simpa using hz0
    have hz0E : (z == 0) = false := by simpa using hz0
    rw [hz0E]
    have hte := Lib.hid (fun W hb => (htr.out W hb).mono fun e w' h => h.err hz0)
    have HZ := Lib.hid hz0
    clear hR hz hz0 HOK htr hBl hz0E his hPl
    go_enter Try.func19, Try.ntmps19
    go_upto_region 1 with (fail)
    go_name_world X hX
    have BX : Below w.heap.size w X := (al2 hX).1
    have zX : X.heap.size = w.heap.size + 2 := (al2 hX).2
    have P0 := (al2_0 hX).2.1
    have P1 := (al2_1 hX).2.1 0
    have lX : w.heap.size < X.heap.size := by omega
    have lX1 : w.heap.size + 1 < X.heap.size := by omega
    clear hX
    have hcq := fun p : Regrown => (bcell (below_regrown X p.d p.os)).1
    refine wp_region_quiet_below (by kernel_rfl) (by kernel_rfl) ?_
    repeat (go_big_quiet_step (((first | (go_at_call 57; exact Calls.regrown_of (hpb.out _)) | (go_at_call 56; exact Calls.regrown_of (hte.out _ (BX.trans ((below_regrown _ _ _).mono BX.size))))))))
    refine wpQuiet_nil ?_
    intro wq hq
    obtain ⟨pq, hq⟩ := hq
    have hbq : Below X.heap.size X wq := by rw [hq]; exact below_regrown _ _ _
    clear hq hcq pq
    obtain ⟨hcq, hfq⟩ := bcell hbq
    have zq := hbq.size
    go_wp2
    exact bodyPost_ret (v := .tuple #[.slice none 0 0, .int .i64 z]) (by simp [results, Try.results19, go_sem]) rfl ⟨_, rfl, World.ownsRow_nil _ _ _ _, by (repeat first | with_reducible assumption | with_reducible exact Below.refl _ _ | (with_reducible refine Below.alloc ?_ ?side _; case side => (first | omega | (with_reducible exact Below.size (by assumption)) | (simp; done) | (simp; omega))) | (with_reducible refine Below.setCell ?_ ?side _; case side => (first | omega | (with_reducible exact Below.size (by assumption)) | (simp; done) | (simp; omega))) | with_reducible refine Below.drew ?_ | with_reducible refine below_drewN ?_ _ | (with_reducible refine below_step (by assumption) ?side ?_; case side => (first | omega | (with_reducible exact Below.size (by assumption)) | (simp; done) | (simp; omega))))⟩

end Go.Proofs.Ytmopnbijfcamjaa
