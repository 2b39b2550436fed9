/- needs of orders (layer 8). -/
import Derived.Test.YtcbeiadimchknaaGreatQp05
import Derived.Test.YtcbeiadimchknaaGreatQp06
import Derived.Test.YtcbeiadimchknaaGreatQp09
import Derived.Test.YtcbeiadimchknaaGreatQp10
import Derived.Test.YtcbeiadimchknaaGreatQp04
import Derived.Shelf.Abstract
import Derived.Laws.EntriesVeiled
import Derived.Handy
import Derived.Deep.DrawnRows
import Derived.Deep.DeepCutAuto
import Derived.BigRegionIn
import Derived.Shelf.RegionOpen
import Derived.Maps.OwnOps
namespace Go.Proofs.YtcbeiadimchknaaGreat
open Go.RowKit Go.Maps
open Go.Sort (grow)
set_option linter.unusedVariables false
set_option linter.unusedSimpArgs false

theorem out8 : laidOutB Tryz.prog = true := by kernel_rfl
theorem law8 : WideMaps.KeyLaw Tryz.prog 141 := deep_law_laid out8 (m := 2) (by omega) (of_decide_eq_true (by kernel_rfl)) (by kernel_rfl) (by rw [Tryz.underlying141])
def kl8 (x : Nd8) : Lit := .string (keyBytes [.int .i64 x.size, .int .i64 x.long])
def wf8 (x : Nd8) : Prop := (Lit.int .i64 x.size).wf = true ∧ (Lit.int .i64 x.long).wf = true
theorem cells8 : Tryz.prog.cellsOf 141 = 2 ∧ Tryz.prog.cellsOf 3 = 1 ∧ Tryz.prog.keyType 141 = true := by refine ⟨?_, ?_, ?_⟩ <;> kernel_rfl
theorem hkey8 (x : Nd8) (h : wf8 x) : keyOf Tryz.prog 141 (.agg #[.int .i64 x.size, .int .i64 x.long]) = some (kl8 x) := by
  obtain ⟨c1, c2, c3⟩ := cells8
  obtain ⟨N, hN⟩ : ∃ N, Tryz.prog.types.size = N + 1 := ⟨Tryz.prog.types.size - 1, by have : 0 < Tryz.prog.types.size := of_decide_eq_true (by kernel_rfl); omega⟩
  unfold keyOf
  rw [Tryz.underlying141]
  simp only [c3, Value.formed, Tryz.underlying141, c1, hN]
  simp [Program.keyLits, Tryz.underlying141, Tryz.underlying3, c1, c2, Value.cells, h.1, h.2, kl8]
theorem kl8_inj {x y : Nd8} (hx : wf8 x) (hy : wf8 y) (h : kl8 x = kl8 y) : x = y := by
  have := law8.inj (hkey8 x hx) (h ▸ hkey8 y hy)
  simp at this
  obtain ⟨a, b⟩ := x
  obtain ⟨c, d⟩ := y
  obtain ⟨rfl, rfl⟩ := this
  rfl
theorem ndE8 : ElemT Tryz.prog 123 141 2 16 := by
  obtain ⟨i0, hi0, hz0, hz1, hz2⟩ := info_parts (P := Tryz.prog) (show (Tryz.prog.info? 141).map (fun i => (i.zero, i.size, i.bytes)) = some (some (.agg #[.int .i64 0, .int .i64 0]), 2, 16) by kernel_rfl)
  exact ⟨Tryz.underlying123, ⟨i0, _, hi0, hz0, hz1, hz2, rfl⟩, by omega, by omega⟩
theorem zero8 (w : World) : (zeroValue 3).run Tryz.prog w = .ok (.int .i64 0) w := by kernel_rfl
theorem ndT_bd {nr ns nk : Nat} {rs : List Rt8} {ss : List Sp} {ks : List Sk8} {shk : Int} (ok : Ok8 nr ns nk rs ss ks shk) (t : Int) : ∀ k, k ≤ nr → (0 ≤ (ndT rs t k).size ∧ (ndT rs t k).size ≤ 99) ∧ 0 ≤ (ndT rs t k).long ∧ (ndT rs t k).long ≤ 999
  | 0, _ => by simp [ndT]
  | k + 1, hk => by
    have h1 := ndT_bd ok t k (by omega)
    have h2 := ok.rt k (by omega)
    unfold ndT
    split
    · simp only; omega
    · exact h1
theorem nd_wf {x : Nd8} (h : (0 ≤ x.size ∧ x.size ≤ 99) ∧ 0 ≤ x.long ∧ x.long ≤ 999) : wf8 x := ⟨WalkArith.wf_i64 (by omega), WalkArith.wf_i64 (by omega)⟩
theorem own_but {g base : Nat} {e : TypeId} {size n : Nat} {v : Value} {xs : List Value} {W W' : World} (h : W.ownsRow base e size v n xs) (hb : But g W W') (hg : v.ownBlock ≠ some g) : W'.ownsRow base e size v n xs := (TameB.of_but (B := 0) hb).own h hg
theorem own_map_but {H : Type} {P : Program} {k : TypeId} {R : Value → Option (DataW H × List MemPlace)} {b n g : Nat} {D : DataW H} {W W' : World} (h : W.ownsMap P k R b n D) (hb : But g W W') (hg : b ≠ g) : W'.ownsMap P k R b n D := own_at_block h (hb.same b h.lt hg)
theorem row_not_map {H : Type} {P : Program} {k : TypeId} {R : Value → Option (DataW H × List MemPlace)} {b m base : Nat} {D : DataW H} {e : TypeId} {size n : Nat} {v : Value} {xs : List Value} {W : World} (h : W.ownsRow base e size v n xs) (hm : W.ownsMap P k R b m D) : v.ownBlock ≠ some b := by
  intro hv
  obtain ⟨es, clock, hb, -⟩ := hm
  rcases h.2 with ⟨rfl, -⟩ | ⟨g, cap, cur, rfl, -, hh, -⟩
  · cases hv
  · cases hv
    rw [hb] at hh
    cases hh
theorem own_same {base : Nat} {e : TypeId} {size n : Nat} {v : Value} {xs : List Value} {W W' : World} (h : W.ownsRow base e size v n xs) (he : ∀ g, v.ownBlock = some g → W'.heap[g]? = W.heap[g]?) : W'.ownsRow base e size v n xs := by
  obtain ⟨h1, h2⟩ := h
  refine ⟨h1, ?_⟩
  rcases h2 with h2 | ⟨g, cap, cur, rfl, hg, hh, r⟩
  · exact Or.inl h2
  · exact Or.inr ⟨g, cap, cur, rfl, hg, (he g rfl).trans hh, r⟩
/-- the memory of needs behind k tonnages; b: the map -/
structure NdI (w : World) (base b nr : Nat) (rs : List Rt8) (t0 : Int) (ob sb : Array Value) (v : Value) (k : Nat) (W : World) : Prop where
  own : W.ownsRow base 141 2 v (nL rs nr t0 k).length ((nL rs nr t0 k).flatMap encN8)
  map : ∃ D : DataW Unit, W.ownsMap Tryz.prog 141 (plainElem Tryz.prog 3) b k D ∧ IsMap D ∧ ∀ x, wf8 x → D.atKey (kl8 x) (.lit (.int .i64 0)) = .lit (.int .i64 (nC rs nr t0 x k : Nat))
  ho : Blk W w.heap.size 40 ob
  ht : Blk W (w.heap.size + 1) 34 sb
  below : Below w.heap.size w W
set_option maxRecDepth 100000 in
set_option maxHeartbeats 3200000 in
theorem needs_c (A : Option Addr) (nr c : Nat) (B : Option Addr) (ns d : Nat) (C : Option Addr) (nk f : Nat) (shk : Int) (rs : List Rt8) (ss : List Sp) (ks : List Sk8) (t0 t1 : Int) (ht : 0 ≤ t0 ∧ t0 ≤ t1 ∧ t1 ≤ 9999) (w : World) (HA : RtsAt w A nr rs) (ok : Ok8 nr ns nk rs ss ks shk) :
    Calls Tryz.prog 65 #[.agg #[.slice A nr c, .slice B ns d, .slice C nk f, .int .i64 shk], .agg #[.int .i64 t0, .int .i64 t1]] w fun e w' => ∃ L c', e = .returned (.slice L (nS rs nr ⟨t0, t1⟩).length c') ∧ NdsAt w' L (nS rs nr ⟨t0, t1⟩).length (nS rs nr ⟨t0, t1⟩) ∧ (∀ a, L = some a → w.heap.size ≤ a.block ∧ a.block < w'.heap.size) ∧ Below w.heap.size w w' := by
  have HAI := Lib.hid HA
  have HBD := Lib.hid (fun t k hk => ndT_bd ok t k hk)
  have h1 := ok.rl
  obtain ⟨K, hK⟩ : ∃ K : Nat, (t1 - t0 + 1).toNat = K := ⟨_, rfl⟩
  have hK1 : t1 + 1 = t0 + K := by omega
  have HK1 := Lib.hid hK1
  clear hK1
  have HR : Hid (nS rs nr ⟨t0, t1⟩ = nL rs nr t0 K) := Lib.hid (by unfold nS; rw [← hK])
  obtain ⟨Rr, hRr⟩ : ∃ x, nS rs nr ⟨t0, t1⟩ = x := ⟨_, rfl⟩
  rw [hRr] at HR ⊢
  have hKB : K ≤ 10000 := by omega
  have ht2 : t0 ≤ 9999 := by omega
  have ht3 := ht.1
  clear HA ok hRr hK ht
  have hmm := @run_makeMap Tryz.prog
  go_enter Tryz.func65, Tryz.ntmps65
  go_upto_region 1 with (fail)
  go_name_world X hX
  have BX := (al2 hX).1
  have zX := (al2 hX).2
  have HO0 : Hid (Blk X w.heap.size 40 #[.slice A nr c, .slice B ns d, .slice C nk f, .int .i64 shk]) := by rw [← hX]; exact Lib.hid ((Blk.new w _ _).alloc _)
  have HT0 : Hid (Blk X (w.heap.size + 1) 34 #[.int .i64 t0, .int .i64 t1]) := by
    rw [← hX]
    have := Blk.new (w.alloc (.cells #[.slice A nr c, .slice B ns d, .slice C nk f, .int .i64 shk] 40)) 34 #[.int .i64 t0, .int .i64 t1]
    rw [World.size_alloc] at this
    exact Lib.hid this
  clear hX
  go_upto_region 3 with (fail)
  obtain ⟨bm, hbm⟩ : ∃ x, w.heap.size + 2 = x := ⟨_, rfl⟩
  go_name_world M hM
  have HM0 : Hid (NdI w (bm + 1) bm nr rs t0 #[.slice A nr c, .slice B ns d, .slice C nk f, .int .i64 shk] #[.int .i64 t0, .int .i64 t1] (.slice none 0 0) 0 M) := Lib.hid (by
    rw [← hM, ← hbm, ← zX]
    exact ⟨World.ownsRow_nil _ _ _ _, ⟨_, World.ownsMap_made _ _ _ _, isMap_empty, fun x _ => rfl⟩, HO0.out.alloc _, HT0.out.alloc _, BX.alloc (by omega) _⟩)
  have zM : M.heap.size = bm + 1 := by rw [← hM, World.size_alloc, zX, hbm]
  rw [hbm]
  clear hM hmm
  have q1 := HM0.out.ht.cell
  have l1 := HM0.out.ht.lt
  go_wp2_with fail
  clear q1 l1
  go_loopw [6, 7] (fun v i (wv : World) => ∃ k : Nat, k ≤ K ∧ i = .int .i64 (t0 + k) ∧ Hid (NdI w (bm + 1) bm nr rs t0 #[.slice A nr c, .slice B ns d, .slice C nk f, .int .i64 shk] #[.int .i64 t0, .int .i64 t1] v k wv) ∧ bm < wv.heap.size) (fun _ i _ => (t0 + K - intOf i).toNat)
  case atStart => exact ⟨0, by omega, by simp, HM0, by omega⟩
  case round =>
    obtain ⟨k, hk, rfl, HI, hbz⟩ := hrel
    obtain ⟨A3, c3, rfl, -, hsl⟩ := SlAt.of_own (d := (⟨0, 0⟩ : Nd8)) encN8_len HI.out.own rfl
    have q1 := HI.out.ht.cell
    have l1 := HI.out.ht.lt
    by_cases hlt : k < K
    · have hqB : decide (t0 + k ≤ t1) = true := decide_eq_true (by have := HK1.out; omega)
      have vk : IntKind.i64.wrap (t0 + k + 1) = t0 + (k + 1 : Nat) := by rw [IntWalk.i64_in _ (by omega)]; omega
      clear hsl
      go_upto_region 7 with (fail)
      go_name_world Z hZ
      have BZ : Below wr.heap.size wr Z := (al1 hZ).1
      have zZ : Z.heap.size = wr.heap.size + 1 := (al1 hZ).2
      have HG0 : Hid (Blk Z wr.heap.size 141 #[.int .i64 (ndT rs (t0 + k) 0).size, .int .i64 (ndT rs (t0 + k) 0).long]) := by rw [← hZ]; exact Lib.hid (Blk.new wr _ _)
      have HOZ := Lib.hid (HI.out.ho.below BZ HI.out.ho.lt)
      have q2 := HOZ.out.cell
      have l2 := HOZ.out.lt
      have hwZ := Lib.hid (HI.out.below.trans (BZ.mono HI.out.below.size))
      clear hZ q1 l1
      obtain ⟨t, ht⟩ : ∃ t, t0 + (k : Int) = t := ⟨_, rfl⟩
      obtain ⟨gx, hgx⟩ : ∃ x, wr.heap.size = x := ⟨_, rfl⟩
      rw [ht] at HG0 hqB vk ⊢
      rw [hgx] at HG0 ⊢
      have hwg : w.heap.size + 2 < gx := by omega
      have zG : Z.heap.size = gx + 1 := by omega
      have hbg : bm < gx := by omega
      have HBM := Lib.hid hbm
      have HZI : Hid (Z.ownsRow (bm + 1) 141 2 (.slice A3 (nL rs nr t0 k).length c3) (nL rs nr t0 k).length ((nL rs nr t0 k).flatMap encN8)) := Lib.hid (own_below HI.out.own BZ)
      have HZM : Hid (∃ D : DataW Unit, Z.ownsMap Tryz.prog 141 (plainElem Tryz.prog 3) bm k D ∧ IsMap D ∧ ∀ x, wf8 x → D.atKey (kl8 x) (.lit (.int .i64 0)) = .lit (.int .i64 (nC rs nr t0 x k : Nat))) := Lib.hid (by
        obtain ⟨D, o1, o2, o3⟩ := HI.out.map
        exact ⟨D, own_at_block o1 (BZ.block _ o1.lt), o2, o3⟩)
      have HZT := Lib.hid (HI.out.ht.below BZ HI.out.ht.lt)
      have hA3 : ∀ g, (Value.slice A3 (nL rs nr t0 k).length c3).ownBlock = some g → g < gx := fun g hg => by have := (HI.out.own.lt g hg).2; omega
      have HA3 := Lib.hid hA3
      have HTT := Lib.hid ht
      clear HI hA3 zZ hgx ht BZ hbm zX zM HM0 HO0 HT0 BX
      go_wp2_with fail
      clear q2 l2
      go_loopw [24] (fun i (wu : World) => ∃ j : Nat, j ≤ nr ∧ i = .int .i64 j ∧ Hid (But gx Z wu) ∧ Hid (Blk wu gx 141 #[.int .i64 (ndT rs t j).size, .int .i64 (ndT rs t j).long])) (fun i _ => nr - (intOf i).toNat)
      case atStart => exact ⟨0, by omega, rfl, Lib.hid (But.refl _ _), HG0⟩
      case round =>
        obtain ⟨j, hj, rfl, HBU, HGR⟩ := hrel
        have zu : gx + 1 ≤ wr.heap.size := by have := HBU.out.size; omega
        have hbw := HBU.out.below (by omega) (by omega) hwZ.out
        have hg0 := HGR.out.cell
        have hgf := HGR.out.frozen
        have hgl := HGR.out.lt
        by_cases hjl : j < nr
        · have hjB : decide ((j : Int) < nr) = true := decide_eq_true (by omega)
          have vj : IntKind.i64.wrap ((j : Int) + 1) = (j : Int) + 1 := IntWalk.i64_in _ (by omega)
          obtain ⟨b0, o0, rfl, hb0, x0, x1, x2⟩ := (HAI.out.later hbw).get hjl
          have hsu : ndT rs t (j + 1) = if (rtAt rs j).tons ≤ t then ⟨(rtAt rs j).size, (rtAt rs j).long⟩ else ndT rs t j := rfl
          obtain ⟨⟨u0, u1, u2⟩, hu⟩ : ∃ x, rtAt rs j = x := ⟨_, rfl⟩
          rw [hu] at x0 x1 x2 hsu
          simp only at x0 x1 x2 hsu
          by_cases htl : u0 ≤ t
          · have htB : decide (u0 ≤ t) = true := decide_eq_true htl
            rw [if_pos htl] at hsu
            have HSU := Lib.hid hsu
            clear hsu hu
            go_wp2_with fail
            go_roundw
            case rel =>
              refine ⟨j + 1, by omega, by go_num, Lib.hid ?_, Lib.hid ?_⟩
              · exact ((HBU.out.trans (But.set hgl 0 _)).trans (But.set (by simpa using hgl) 1 _)).trans (But.of_below ((Below.refl _ _).alloc (Nat.le_refl _) _))
              · rw [HSU.out]; exact ((HGR.out.set_ 0 _).set_ 1 _).alloc _
            case measure => simp [intOf]; omega
          · have htB : decide (u0 ≤ t) = false := decide_eq_false htl
            rw [if_neg htl] at hsu
            have HSU := Lib.hid hsu
            clear hsu hu
            go_wp2_with fail
            go_roundw
            case rel =>
              refine ⟨j + 1, by omega, by go_num, Lib.hid ?_, Lib.hid ?_⟩
              · exact HBU.out.trans (But.of_below ((Below.refl _ _).alloc (Nat.le_refl _) _))
              · rw [HSU.out]; exact HGR.out.alloc _
            case measure => simp [intOf]; omega
        · obtain rfl : nr = j := by omega
          have hjB : decide (((nr : Nat) : Int) < nr) = false := decide_eq_false (by omega)
          have hwf := Lib.hid (nd_wf (HBD.out t nr (Nat.le_refl _)))
          have hnl : nL rs nr t0 (k + 1) = if (nL rs nr t0 k).contains (ndT rs (t0 + k) nr) then nL rs nr t0 k else nL rs nr t0 k ++ [ndT rs (t0 + k) nr] := rfl
          have hnc : ∀ y, nC rs nr t0 y (k + 1) = nC rs nr t0 y k + if ndT rs (t0 + k) nr = y then 1 else 0 := fun y => rfl
          rw [HTT.out] at hnl hnc
          obtain ⟨x, hx⟩ : ∃ x, ndT rs t nr = x := ⟨_, rfl⟩
          rw [hx] at hnl hnc hwf hg0 HGR
          have HNL := Lib.hid hnl
          have HNC := Lib.hid hnc
          have HRO := Lib.hid (own_but HZI.out HBU.out (fun e => by have := HA3.out _ e; omega))
          obtain ⟨D, hD0, hD2, hD3⟩ := HZM.out
          have hDW := own_map_but hD0 HBU.out (by omega)
          have HD2 := Lib.hid hD2
          have HD3 := Lib.hid hD3
          have HDW := Lib.hid hDW
          have HTZ := Lib.hid (show Blk wr _ _ _ from (HBU.out.same _ HZT.out.lt (by omega)).trans HZT.out)
          have HOW := Lib.hid (show Blk wr _ _ _ from (HBU.out.same _ HOZ.out.lt (by omega)).trans HOZ.out)
          clear hnl hnc hx hD0 hD2 hD3 hDW
          go_upto_region 13 with (fail)
          obtain ⟨Y, hY⟩ : ∃ Y, wr.drew = Y := ⟨_, rfl⟩
          have hYB : Below wr.heap.size wr Y := by rw [← hY]; (repeat first | with_reducible assumption | with_reducible exact Below.refl _ _ | (with_reducible refine Below.alloc ?_ ?side _; case side => (first | omega | (with_reducible exact Below.size (by assumption)) | (simp; done) | (simp; omega))) | (with_reducible refine Below.setCell ?_ ?side _; case side => (first | omega | (with_reducible exact Below.size (by assumption)) | (simp; done) | (simp; omega))) | with_reducible refine Below.drew ?_ | with_reducible refine below_drewN ?_ _ | (with_reducible refine below_step (by assumption) ?side ?_; case side => (first | omega | (with_reducible exact Below.size (by assumption)) | (simp; done) | (simp; omega))))
          obtain ⟨c, hc⟩ : ∃ c, nC rs nr t0 x k = c := ⟨_, rfl⟩
          have hcle : c ≤ k := by rw [← hc]; exact nC_le k
          have hDY := own_at_block HDW.out (hYB.block _ HDW.out.lt)
          have hat0 := HD3.out x hwf.out
          rw [hc] at hat0
          have LK : Hid (∀ (W' : World) (m : Nat) (D' : DataW Unit) (c' : Int), W'.ownsMap Tryz.prog 141 (plainElem Tryz.prog 3) bm m D' → D'.atKey (kl8 x) (.lit (.int .i64 0)) = .lit (.int .i64 c') → (Instr.lookup 139 (.map (some bm)) (.agg #[.int .i64 x.size, .int .i64 x.long]) false).run Tryz.prog W' = .ok (.int .i64 c') W') := Lib.hid (fun W' m D' c' h1 h2 => by
            obtain ⟨c1, e1, e2, -⟩ := h1.lookup_int (Keyed.of_law law8) Tryz.underlying139 Tryz.underlying3 (zero8 W') (hkey8 x hwf.out)
            rw [h2] at e2
            cases e2
            exact e1)
          obtain ⟨v0, st, w1, hent, hown1, hg1, hst⟩ := own_entry hDY law8 Tryz.underlying139 zero8 (plainElem_int Tryz.underlying3 (WalkArith.wf_i64 (by omega))) (by unfold maxLen; omega) (hkey8 x hwf.out)
          rw [hat0] at hown1
          have hlk0 := LK.out Y _ _ _ hDY hat0
          have hlk1 := LK.out w1 _ _ _ hown1 (atKey_put_same HD2.out ((Keyed.of_law law8).key (hkey8 x hwf.out)) _ _)
          obtain ⟨w3, hsto, hown3, hg3⟩ := hst w1 (.int .i64 ((c : Int) + 1)) _ _ (plainElem_int Tryz.underlying3 (WalkArith.wf_i64 (by omega))) rfl
          have hsto2 : (Instr.entryStore 139 (.map (some bm)) (.int .i64 st) (.int .i64 ((c : Int) + 1))).run Tryz.prog w1 = .ok () w3 := hsto
          have vc : IntKind.i64.wrap ((c : Int) + 1) = (c : Int) + 1 := IntWalk.i64_in _ (by omega)
          have HOWN3 := Lib.hid hown3
          have hlk3 := Lib.hid (LK.out w3 _ _ _ hown3 (atKey_put_same HD2.out ((Keyed.of_law law8).key (hkey8 x hwf.out)) _ _))
          have HGN : Hid (∀ g, g ≠ bm → g < wr.heap.size → w3.heap[g]? = wr.heap[g]?) := Lib.hid (fun g h1 h2 => (hg3.block g (Nat.lt_of_lt_of_le h2 (Nat.le_trans hYB.size hg1.size)) (fun e => h1 (by simpa using e))).trans ((hg1.block g (Nat.lt_of_lt_of_le h2 hYB.size) (fun e => h1 (by simpa using e))).trans (hYB.block g h2)))
          have HGO : Hid (w3.os = wr.os ∧ w3.tape = wr.tape ∧ w3.output = wr.output ∧ wr.heap.size ≤ w3.heap.size) := Lib.hid ⟨hg3.os.trans (hg1.os.trans hYB.os), hg3.tape.trans (hg1.tape.trans hYB.tape), hg3.output.trans (hg1.output.trans hYB.output), Nat.le_trans hYB.size (Nat.le_trans hg1.size hg3.size)⟩
          have cx := fun (W' : World) (h : W'.heap[gx]? = wr.heap[gx]?) => (show Blk W' gx _ _ from h.trans HGR.out).cell
          have cY := cx Y (hYB.block _ hgl)
          have cw1 := cx w1 ((hg1.block _ (Nat.lt_of_lt_of_le hgl hYB.size) (fun e => by simp at e; omega)).trans (hYB.block _ hgl))
          have HCY := Lib.hid (And.intro (cY 0) (And.intro (cY 1) hlk0))
          have HCW := Lib.hid (And.intro (cw1 0) (And.intro (cw1 1) hlk1))
          clear hg1 hg3 hst hown1 hown3 hDY hat0 hg0 hgf cx cY cw1 hlk0 hlk1
          refine (Go.wpIn_wide (n := 3)).1 ?_
          have hS : Y.cell? ⟨gx, 0, none⟩ = some (.int .i64 x.size) ∧ Y.cell? ⟨gx, 1, none⟩ = some (.int .i64 x.long) ∧ (Instr.lookup 139 (.map (some bm)) (.agg #[.int .i64 x.size, .int .i64 x.long]) false).run Tryz.prog Y = .ok (.int .i64 c) Y := HCY.out
          refine wpIn_region_M (by kernel_rfl) (fun W' => W'.cell? ⟨gx, 0, none⟩ = some (.int .i64 x.size) ∧ W'.cell? ⟨gx, 1, none⟩ = some (.int .i64 x.long) ∧ (Instr.lookup 139 (.map (some bm)) (.agg #[.int .i64 x.size, .int .i64 x.long]) false).run Tryz.prog W' = .ok (.int .i64 c) W') 6 ?_
          rw [show ({ wr with drawn := wr.drawn + 1 } : World) = Y from hY]
          refine wpAnyM_take (fun _ => trivial) (by rfl) (i := 0) (v := ?_) rfl (by kernel_rfl) (by kernel_rfl) (by kernel_rfl) (by kernel_rfl) (fun _ _ _ h => h) hS (Or.inl ⟨by rfl, ?_⟩) ?_
          rotate_left 1
          · intro w9 hw9
            obtain ⟨s0, s1, s2⟩ := hw9
            go_simp
            try with_reducible rfl
          try simp only [List.getElem_toArray, List.getElem_cons_zero, List.getElem_cons_succ, Act.put, List.setIfInBounds_toArray, List.set_cons_zero, List.set_cons_succ]
          refine wpAnyM_take (fun _ => trivial) (by rfl) (i := 1) (v := ?_) rfl (by kernel_rfl) (by kernel_rfl) (by kernel_rfl) (by kernel_rfl) (fun _ _ _ h => h) hS (Or.inl ⟨by rfl, ?_⟩) ?_
          rotate_left 1
          · intro w9 hw9
            obtain ⟨s0, s1, s2⟩ := hw9
            go_simp
            try with_reducible rfl
          try simp only [List.getElem_toArray, List.getElem_cons_zero, List.getElem_cons_succ, Act.put, List.setIfInBounds_toArray, List.set_cons_zero, List.set_cons_succ]
          refine wpAnyM_take (fun _ => trivial) (by rfl) (i := 2) (v := ?_) rfl (by kernel_rfl) (by kernel_rfl) (by kernel_rfl) (by kernel_rfl) (fun _ _ _ h => h) hS (Or.inl ⟨by rfl, ?_⟩) ?_
          rotate_left 1
          · intro w9 hw9
            obtain ⟨s0, s1, s2⟩ := hw9
            go_simp
            try with_reducible rfl
          try simp only [List.getElem_toArray, List.getElem_cons_zero, List.getElem_cons_succ, Act.put, List.setIfInBounds_toArray, List.set_cons_zero, List.set_cons_succ]
          refine wpAnyM_take (fun _ => trivial) (by rfl) (i := 3) (v := ?_) rfl (by kernel_rfl) (by kernel_rfl) (by kernel_rfl) (by kernel_rfl) (fun _ _ _ h => h) hS (Or.inl ⟨by rfl, ?_⟩) ?_
          rotate_left 1
          · intro w9 hw9
            obtain ⟨s0, s1, s2⟩ := hw9
            go_simp
            try with_reducible rfl
          try simp only [List.getElem_toArray, List.getElem_cons_zero, List.getElem_cons_succ, Act.put, List.setIfInBounds_toArray, List.set_cons_zero, List.set_cons_succ]
          clear hS
          refine wpAnyM_one (i := 4) (by kernel_rfl) rfl (fun Kx hKx => ?_)
          go_simp
          refine hKx.out _ _ (fun _ => HCW.out) ?_
          clear hKx Kx
          try simp only [List.getElem_toArray, List.getElem_cons_zero, List.getElem_cons_succ, Act.put, List.setIfInBounds_toArray, List.set_cons_zero, List.set_cons_succ]
          have hS := HCW.out
          refine wpAnyM_take (fun _ => trivial) (by rfl) (i := 5) (v := ?_) rfl (by kernel_rfl) (by kernel_rfl) (by kernel_rfl) (by kernel_rfl) (fun _ _ _ h => h) hS (Or.inl ⟨by rfl, ?_⟩) ?_
          rotate_left 1
          · intro w9 hw9
            obtain ⟨s0, s1, s2⟩ := hw9
            go_simp
            try with_reducible rfl
          try simp only [List.getElem_toArray, List.getElem_cons_zero, List.getElem_cons_succ, Act.put, List.setIfInBounds_toArray, List.set_cons_zero, List.set_cons_succ]
          clear hS
          refine wpAnyM_one (i := 6) (by kernel_rfl) rfl (fun Kx hKx => ?_)
          go_simp
          refine hKx.out _ _ (fun h => by simp at h) ?_
          clear hKx Kx
          try simp only [List.getElem_toArray, List.getElem_cons_zero, List.getElem_cons_succ, Act.put, List.setIfInBounds_toArray, List.set_cons_zero, List.set_cons_succ]
          refine wpAnyM_done (by kernel_rfl) ?_ _
          have HMAP3 : Hid (∃ D : DataW Unit, w3.ownsMap Tryz.prog 141 (plainElem Tryz.prog 3) bm (k + 1) D ∧ IsMap D ∧ ∀ y, wf8 y → D.atKey (kl8 y) (.lit (.int .i64 0)) = .lit (.int .i64 (nC rs nr t0 y (k + 1) : Nat))) := Lib.hid (by
            refine ⟨_, HOWN3.out, HD2.out.put _ _, fun y hy => ?_⟩
            rw [HNC.out]
            by_cases hxy : x = y
            · subst hxy
              rw [atKey_put_same HD2.out ((Keyed.of_law law8).key (hkey8 x hwf.out)), if_pos rfl, hc]
              simp
            · rw [atKey_put_other (fun e => hxy (kl8_inj hwf.out hy e.symm)), HD3.out y hy, if_neg hxy]
              simp)
          have HRO3 := Lib.hid (own_same HRO.out (fun g hg => HGN.out g (fun e => row_not_map HRO.out HDW.out (by rw [hg, e])) (HRO.out.lt g hg).2))
          have HNM := Lib.hid (row_not_map HRO.out HDW.out)
          have HT3 := Lib.hid (show Blk w3 _ _ _ from (HGN.out _ (by have := HBM.out; omega) HTZ.out.lt).trans HTZ.out)
          have HO3 := Lib.hid (show Blk w3 _ _ _ from (HGN.out _ (by have := HBM.out; omega) HOW.out.lt).trans HOW.out)
          have HB3 : Hid (Below w.heap.size w w3) := Lib.hid ⟨HGO.out.1.trans hbw.os, HGO.out.2.1.trans hbw.tape, HGO.out.2.2.1.trans hbw.output, Nat.le_trans hbw.size HGO.out.2.2.2, fun g hg => (HGN.out g (by have := HBM.out; omega) (by omega)).trans (hbw.block g hg)⟩
          have HG3 := Lib.hid ((HGN.out _ (by omega) hgl).trans HGR.out)
          have kg : Blk w3 gx 141 #[.int .i64 x.size, .int .i64 x.long] := HG3.out
          have cg := kg.cell
          have lg := kg.lt
          have zg3 : bm < w3.heap.size := by omega
          have lk3 := hlk3.out
          have hcx := nC_mem (rs := rs) (nr := nr) (t := t0) (x := x) k
          rw [hc] at hcx
          clear kg hsto hsto2 hent HCY HCW HGN HGO hY hYB HOWN3 HD3 HRO HTZ HOW HZI HZM HBU HGR hlk3 hgl hbw LK
          by_cases hc0 : c = 0
          · have hcB : (((c : Nat) : Int) + 1 == 1) = true := by rw [hc0]; rfl
            have hnc2 : (nL rs nr t0 k).contains x = false := by
              rw [Bool.eq_false_iff]
              intro h
              rw [List.contains_iff_mem] at h
              have := hcx.2 h
              omega
            have hn2 := HNL.out
            rw [hnc2, if_neg (by simp)] at hn2
            have HN2 := Lib.hid hn2
            have hll := nL_len (rs := rs) (nr := nr) (t := t0) k
            clear hn2 hnc2 hcx hc
            go_wp2_with (at_builtin; go_must (refine wpList_append_T _ (d := (⟨0, 0⟩ : Nd8)) rfl (.tmp 48) (.tmp 50) _ rfl (bm + 1) _ 2 16 ndE8 encN8_len encN8_one (.slice A3 (nL rs nr t0 k).length c3) _ (nL rs nr t0 k).length (nL rs nr t0 k) rfl rfl ?_ _ 1 _ [x] rfl ?_ ?_ ?_ ?_; (exact HRO3.out.alloc _); (exact sl_new encN8_len rfl rfl rfl); (focus omega); (focus (simp only [World.size_alloc]; omega)); (intro v' w6 hown6 hg6 hat6; have HP := Lib.hid hown6; have HG6 := Lib.hid hg6; clear hown6 hg6 hat6)))
            go_roundw
            case rel =>
              refine ⟨k + 1, by omega, by first | rfl | simp, Lib.hid ⟨?_, ?_, ?_, ?_, ?_⟩, ?_⟩
              · rw [HN2.out, List.length_append]; exact HP.out
              · obtain ⟨D3, e1, e2, e3⟩ := HMAP3.out
                exact ⟨D3, (e1.alloc _).kept HG6.out (fun e => HNM.out e.symm), e2, e3⟩
              · exact (HO3.out.alloc _).grown HG6.out (fun e => by have := (HRO3.out.lt _ e.symm).1; have := HBM.out; omega)
              · exact (HT3.out.alloc _).grown HG6.out (fun e => by have := (HRO3.out.lt _ e.symm).1; have := HBM.out; omega)
              · exact Below.grown (HB3.out.alloc HB3.out.size _) HG6.out (by simp only [World.size_alloc]; have := HB3.out.size; omega) (fun g hg => by have := (HRO3.out.lt g hg).1; have := HBM.out; omega)
              · have := HG6.out.size; simp only [World.size_alloc] at this; omega
            case measure => simp [intOf]; omega
          · have hcB : (((c : Nat) : Int) + 1 == 1) = false := by simp; omega
            have hnc2 : (nL rs nr t0 k).contains x = true := by rw [List.contains_iff_mem]; exact hcx.1 (by omega)
            have hn2 := HNL.out
            rw [hnc2, if_pos rfl] at hn2
            have HN2 := Lib.hid hn2
            clear hn2 hnc2 hcx hc
            go_wp2_with fail
            go_roundw
            case rel => exact ⟨k + 1, by omega, by first | rfl | simp, Lib.hid ⟨by rw [HN2.out]; exact HRO3.out, HMAP3.out, HO3.out, HT3.out, HB3.out⟩, zg3⟩
            case measure => simp [intOf]; omega
    · obtain rfl : K = k := by omega
      have hqB : decide (t0 + (K : Int) ≤ t1) = false := decide_eq_false (by have := HK1.out; omega)
      have HS := Lib.hid (show NdsAt wr A3 _ _ from hsl)
      clear hsl
      go_wp2_with fail
      go_ret
      exact ⟨A3, c3, by rw [HR.out]; rfl, by rw [HR.out]; exact HS.out, fun a ha => by have := own_addr HI.out.own a ha; omega, HI.out.below⟩

end Go.Proofs.YtcbeiadimchknaaGreat
