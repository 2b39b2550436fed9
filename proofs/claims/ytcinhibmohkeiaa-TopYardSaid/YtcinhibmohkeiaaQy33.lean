/- Many of levers (layer 3): the number of truths. -/
import Derived.Test.YtcinhibmohkeiaaQy32
import Derived.Test.YtcinhibmohkeiaaQy27
import Derived.BigRegionIn
import Derived.Shelf.RegionOpen
namespace Go.Proofs.Ytcinhibmohkeiaa
open Go.RowKit
open Go.Sort (grow)
set_option linter.unusedVariables false
set_option linter.unusedSimpArgs false

attribute [local go_sem] Oper.semAt_some
theorem ups_le {a b : Int} {c : Nat} (h : b - a + 1 ≤ c) : (ups a b).length ≤ c := by rw [ups_len]; omega
theorem flatMap_le {α β : Type} {f : α → List β} {c : Nat} : ∀ (l : List α), (∀ x ∈ l, (f x).length ≤ c) → (l.flatMap f).length ≤ l.length * c
  | [], _ => by simp
  | x :: l, h => by
    have h1 := flatMap_le l (fun y hy => h y (List.mem_cons_of_mem _ hy))
    have h2 := h x List.mem_cons_self
    rw [List.flatMap_cons, List.length_append, List.length_cons, Nat.succ_mul]
    omega
theorem stS_le {lv : List Lv} {l0 l1 : Int} (hl : l1 - l0 + 1 ≤ 21) : ∀ (r i : Nat) (s : St3), (∀ k, k < i + r → 1 ≤ (lvAt lv k).lo ∧ (lvAt lv k).hi ≤ 1000) → (stS lv l0 l1 i r s).length ≤ 1000 ^ r * 21
  | 0, i, s, _ => by
    unfold stS
    rw [List.length_map]
    exact ups_le (by omega)
  | r + 1, i, s, h => by
    unfold stS
    have h1 := flatMap_le (f := fun n => stS lv l0 l1 (i + 1) r (s.put i n)) (c := 1000 ^ r * 21) (ups (lvAt lv i).lo (lvAt lv i).hi) (fun n _ => stS_le hl r (i + 1) _ (fun k hk => h k (by omega)))
    have h2 : (ups (lvAt lv i).lo (lvAt lv i).hi).length ≤ 1000 := ups_le (by have := h i (by omega); omega)
    refine Nat.le_trans h1 (Nat.le_trans (Nat.mul_le_mul_right _ h2) ?_)
    rw [Nat.pow_succ]
    exact Nat.le_of_eq (by ac_rfl)
theorem trS_le {nl nb : Nat} {wa l0 l1 wr ab : Int} {lv : List Lv} {bl : List Bal} (ok : OkM nl nb wa l0 l1 wr ab lv bl) : (trS lv l0 l1 wa ab wr bl).length ≤ 21000000000 := by
  have h1 := stS_le (lv := lv) (l0 := l0) (l1 := l1) (by have := ok.lk; omega) lv.length 0 ⟨0, 0, 0, 0, 1⟩ (fun k hk => by have := ok.lv k (by have := ok.ll; omega); omega)
  have h2 : (1000 : Nat) ^ lv.length ≤ 1000 ^ 3 := Nat.pow_le_pow_right (by omega) (by have := ok.ll; have := ok.nl3; omega)
  have h3 : (1000 : Nat) ^ 3 = 1000000000 := by decide
  unfold trS alS
  rw [List.length_map]
  refine Nat.le_trans (List.length_filter_le _ _) ?_
  rw [List.length_map]
  omega
def mnP (nl nb : Nat) (wa l0 l1 wrg : Int) (lv : List Lv) (bl : List Bal) : Int × Int :=
  bif opE nl nb wa l0 l1 wrg lv bl true == 0 then (((trS lv l0 l1 wa (abK lv nl) wrg bl).length : Int), 0) else (0, opE nl nb wa l0 l1 wrg lv bl true)
theorem opE_ck {nl nb : Nat} {wa l0 l1 wrg : Int} {lv : List Lv} {bl : List Bal} {is : Bool} (h : (opE nl nb wa l0 l1 wrg lv bl is == 0) = true) : ckM nl nb wa l0 l1 wrg lv bl = true := by
  cases e : ckM nl nb wa l0 l1 wrg lv bl
  · simp [opE, e] at h
  · rfl
set_option maxRecDepth 100000 in
set_option maxHeartbeats 3200000 in
theorem Many3_c (Al : Option Addr) (nl cl : Nat) (wa l0 l1 : Int) (Ab : Option Addr) (nb cb : Nat) (wrg : Int) (lv : List Lv) (bl : List Bal) (w : World) (hn : nl ≤ 40) (hnb : nb ≤ 40) (HL : LvsAt w Al nl lv) (HB : BasAt w Ab nb bl) :
    Calls Try.prog 21 #[.agg #[.slice Al nl cl, .int .i64 wa, .int .i64 l0, .int .i64 l1, .slice Ab nb cb, .int .i64 wrg]] w fun e w' => e = .returned (.tuple #[.int .i64 (mnP nl nb wa l0 l1 wrg lv bl).1, .int .i64 (mnP nl nb wa l0 l1 wrg lv bl).2]) ∧ Below w.heap.size w w' := by
  have hop := Lib.hid (fun V (hV : Below w.heap.size w V) => open_c Al nl cl wa l0 l1 Ab nb cb wrg lv bl true V hn hnb (HL.later hV) (HB.later hV))
  have HLI := Lib.hid HL
  have HBI := Lib.hid HB
  have hl := HL.1
  have hb := HB.1
  clear HL HB
  cases ez : opE nl nb wa l0 l1 wrg lv bl true == 0
  · have e1 : mnP nl nb wa l0 l1 wrg lv bl = (0, opE nl nb wa l0 l1 wrg lv bl true) := by simp [mnP, ez]
    rw [e1]
    obtain ⟨z, hz⟩ : ∃ z, opE nl nb wa l0 l1 wrg lv bl true = z := ⟨_, rfl⟩
    rw [hz] at hop ez ⊢
    have hz0 : (z != 0) = true := by simpa [bne] using ez
    have hz1 : z ≠ 0 := by simpa using ez
    have HZ := Lib.hid hz1
    have hop0 := Lib.hid (fun V (hV : Below w.heap.size w V) => (hop.out V hV).mono (fun e w' (h : OpPost _ _ _ _ _ _ _ _ _ _ _ _ _ V e w') => show e = .returned (.tuple #[.pointer none, .int .i64 z]) ∧ Below V.heap.size V w' from by
      obtain ⟨h1, (⟨-, h2⟩ | ⟨h2, -⟩)⟩ := h
      · exact ⟨h2, h1⟩
      · exact absurd h2 HZ.out))
    clear e1 hz hl hb ez hz1 hop
    go_enter Try.func21, Try.ntmps21
    go_wp2_with (go_at_call 36; refine (hop0.out _ (by (repeat first | with_reducible assumption | with_reducible exact Below.refl _ _ | (with_reducible refine Below.alloc ?_ ?side _; case side => (first | omega | (with_reducible exact Below.size (by assumption)) | (simp; done) | (simp; omega))) | (with_reducible refine Below.setCell ?_ ?side _; case side => (first | omega | (with_reducible exact Below.size (by assumption)) | (simp; done) | (simp; omega))) | with_reducible refine Below.drew ?_ | with_reducible refine below_drewN ?_ _ | (with_reducible refine below_step (by assumption) ?side ?_; case side => (first | omega | (with_reducible exact Below.size (by assumption)) | (simp; done) | (simp; omega)))))).mono ?_; (rintro e w1 ⟨rfl, hb1⟩; obtain ⟨hc1, hf1⟩ := bcell hb1; have zs1 := hb1.size; (try simp at zs1); have n1_0 : w.heap.size < w1.heap.size := (by omega); have n1_1 : w.heap.size + 1 < w1.heap.size := (by omega)))
    have p1 : w1.cell? ⟨w.heap.size + 1, 0, none⟩ = some (.int .i64 0) := (hc1 _ 0 (by first | omega | (simp; done) | (simp; omega))).trans ((al2_1 rfl).2.1 0)
    have c1 : (w1.setCell ⟨w.heap.size + 1, 0, none⟩ (.int .i64 0)).cell? ⟨w.heap.size + 1, 0, none⟩ = some (.int .i64 0) := World.cell?_setCell_same' _ _ _ (by rw [p1]; rfl)
    exact bodyPost_ret (v := .tuple #[.int .i64 0, .int .i64 z]) (by simp [results, Try.results21, go_sem, c1]) rfl ⟨rfl, by (repeat first | with_reducible assumption | with_reducible exact Below.refl _ _ | (with_reducible refine Below.alloc ?_ ?side _; case side => (first | omega | (with_reducible exact Below.size (by assumption)) | (simp; done) | (simp; omega))) | (with_reducible refine Below.setCell ?_ ?side _; case side => (first | omega | (with_reducible exact Below.size (by assumption)) | (simp; done) | (simp; omega))) | with_reducible refine Below.drew ?_ | with_reducible refine below_drewN ?_ _ | (with_reducible refine below_step (by assumption) ?side ?_; case side => (first | omega | (with_reducible exact Below.size (by assumption)) | (simp; done) | (simp; omega))))⟩
  obtain ⟨ok, hlg⟩ := okM_of (opE_ck ez) hl hb
  have e1 : mnP nl nb wa l0 l1 wrg lv bl = (((trS lv l0 l1 wa (abK lv nl) wrg bl).length : Int), 0) := by simp [mnP, ez]
  rw [e1]
  have hys0 := trS_le ok
  obtain ⟨ys, hys⟩ : ∃ ys, trS lv l0 l1 wa (abK lv nl) wrg bl = ys := ⟨_, rfl⟩
  rw [hys] at hys0 ⊢
  have HIT := Lib.hid (fun gm => truths_c gm Al nl cl wa l0 l1 Ab nb cb wrg (abK lv nl) lv bl ok)
  rw [hys] at HIT
  have hop1 := Lib.hid (fun V (hV : Below w.heap.size w V) => (hop.out V hV).mono (fun e w' (h : OpPost _ _ _ _ _ _ _ _ _ _ _ _ _ V e w') => show ∃ gm, e = .returned (.tuple #[.pointer (some ⟨gm, 0, none⟩), .int .i64 0]) ∧ V.heap.size ≤ gm ∧ MemM gm 95 Al nl cl wa l0 l1 Ab nb cb wrg (abK lv nl) lv bl w' ∧ Below V.heap.size V w' from by
    have hz : opE nl nb wa l0 l1 wrg lv bl true = 0 := by simpa using ez
    obtain ⟨h1, (⟨h2, -⟩ | ⟨-, gm, h3, h4, h5⟩)⟩ := h
    · exact absurd hz h2
    · exact ⟨gm, h3, h4, h5, h1⟩))
  have HYS := Lib.hid hys0
  clear ez hl hb hlg ok hys hop e1 hys0
  obtain ⟨ab, hab⟩ : ∃ x, abK lv nl = x := ⟨_, rfl⟩
  rw [hab] at HIT hop1
  refine (callsIn_wide (n := 6)).1 (callsIn_of_wp_marks Try.func21 rfl trivial ?_ rfl)
  simp only [Try.ntmps21, List.size_toArray, List.length_cons, List.length_nil, Nat.reduceAdd, Nat.reduceSub, Array.replicate_succ, Array.replicate_zero, List.push_toArray, List.append_toArray, List.nil_append, List.cons_append]
  gi_wp2_with (refine ⟨trivial, ?_⟩; gi_at_call 36; refine callsIn_wide.2 ((hop1.out _ (by (repeat first | with_reducible assumption | with_reducible exact Below.refl _ _ | (with_reducible refine Below.alloc ?_ ?side _; case side => (first | omega | (with_reducible exact Below.size (by assumption)) | (simp; done) | (simp; omega))) | (with_reducible refine Below.setCell ?_ ?side _; case side => (first | omega | (with_reducible exact Below.size (by assumption)) | (simp; done) | (simp; omega))) | with_reducible refine Below.drew ?_ | with_reducible refine below_drewN ?_ _ | (with_reducible refine below_step (by assumption) ?side ?_; case side => (first | omega | (with_reducible exact Below.size (by assumption)) | (simp; done) | (simp; omega)))))).mono ?_); rintro e W3 ⟨gm, rfl, hg, hM, hb3⟩; obtain ⟨hc3, hf3⟩ := bcell hb3; have zs3 := hb3.size; simp at zs3)
  have m1 : w.heap.size + 1 < W3.heap.size := by omega
  have hw3 : Below w.heap.size w W3 := by (repeat first | with_reducible assumption | with_reducible exact Below.refl _ _ | (with_reducible refine Below.alloc ?_ ?side _; case side => (first | omega | (with_reducible exact Below.size (by assumption)) | (simp; done) | (simp; omega))) | (with_reducible refine Below.setCell ?_ ?side _; case side => (first | omega | (with_reducible exact Below.size (by assumption)) | (simp; done) | (simp; omega))) | with_reducible refine Below.drew ?_ | with_reducible refine below_drewN ?_ _ | (with_reducible refine below_step (by assumption) ?side ?_; case side => (first | omega | (with_reducible exact Below.size (by assumption)) | (simp; done) | (simp; omega))))
  have c1 := (hc3 (w.heap.size + 1) 0 (by first | omega | (simp; done) | (simp; omega))).trans ((al2_1 rfl).2.1 0)
  have f1 := (hf3 (w.heap.size + 1) 0 (by first | omega | (simp; done) | (simp; omega))).trans ((al2_1 rfl).2.2 0)
  have mg := hM.blk.lt
  simp only [World.size_alloc] at hg
  have HM := Lib.hid hM
  have z03 := hw3.size
  clear hc3 hf3 hb3 hM zs3
  have en := enters_of Try.func37 (by kernel_rfl) rfl
  refine wpIn_rangeO (gf := 37) (fst := #[.pointer (some ⟨gm, 0, none⟩)]) (lb := #[]) rfl en (HIT.out gm) (fun K O x args W h => by rw [h]; rfl)
    (fun K O k W => (∀ b, O b → K b) ∧ Off (fun b => b = w.heap.size + 1) W3.heap.size W3 W ∧ W.cell? ⟨w.heap.size + 1, 0, none⟩ = some (.int .i64 (k : Nat)) ∧ W.frozen? ⟨w.heap.size + 1, 0, none⟩ = false)
    (fun c W => False) ?hI ?hIt ?hIx ?hmem ?h0 ?hround ?hdone ?hstop
  case hI =>
    rintro K O K' O' k W W' hK ⟨hO, a1, a2, a3⟩ hst
    have hn : ∀ b, O b → W3.heap.size ≤ b := fun b hb => by have := hK b (hO b hb); omega
    exact ⟨hst.inO, a1.stp hst hn (Nat.le_refl _), (hst.cell (by exact a1.lt m1) (fun e => by have := hn _ e; simp at this; omega)).trans a2, (hst.frozen (by exact a1.lt m1) (fun e => by have := hn _ e; simp at this; omega)).trans a3⟩
  case hIt =>
    rintro K O k W W' hK hs ⟨hO, a1, a2, a3⟩ ht
    exact ⟨hO, a1.turn ht (Nat.le_refl _) (Nat.le_refl _), (ht.cell (by exact a1.lt m1) (by constructor <;> (show w.heap.size + 1 ≠ _; omega))).trans a2, (ht.frozen (by exact a1.lt m1) (by constructor <;> (show w.heap.size + 1 ≠ _; omega))).trans a3⟩
  case hIx => exact fun c W W' h => h.elim
  case hmem =>
    rintro K O k W ⟨-, a1, -⟩
    have hw := a1.below (m := w.heap.size) (fun b e => by rw [e]; omega) z03 hw3
    exact ⟨a1.blk HM.out.blk mg (by omega), HLI.out.later hw, HBI.out.later hw⟩
  case h0 => exact fun W hb h => ⟨fun b h => h, .of_below hb, (hb.cell (by exact m1)).trans c1, (hb.frozen (by exact m1)).trans f1⟩
  case hround =>
    rintro K O k x args W hK hO hs hx ⟨-, a1, a2, a3⟩ rfl
    have hk := (List.getElem?_eq_some_iff.1 hx).1
    have hkb := HYS.out
    clear hx
    obtain ⟨x0, x1, x2, x3, x4⟩ := x
    simp only [enc3]
    gi_wp2
    refine ⟨.refl, .refl, fun W2 ht => ?_⟩
    have HT := Lib.hid (a1.turn ht (Nat.le_refl _) (Nat.le_refl _))
    have lt1 := HT.out.lt m1
    have t2 := (ht.cell (by exact a1.lt m1) (by constructor <;> (show w.heap.size + 1 ≠ _; omega))).trans a2
    have t3 := (ht.frozen (by exact a1.lt m1) (by constructor <;> (show w.heap.size + 1 ≠ _; omega))).trans a3
    have wr1 : IntKind.i64.wrap ((k : Int) + 1) = ((k + 1 : Nat) : Int) := by rw [IntWalk.i64_in _ (by omega)]; omega
    clear a1 a2 a3 ht hkb
    gi_wp2
    exact ⟨KeepL.set (by constructor <;> (show w.heap.size + 1 ≠ _; omega)) _, KpO.set (fun h => by have := hK _ h; simp at this; omega) _,
      hO, HT.out.set (.inl rfl) _, World.cell?_setCell_same' _ _ _ (by rw [t2]; rfl), by rw [World.frozen?_setCell]; exact t3⟩
  case hdone =>
    rintro K O W hK hs ⟨-, a1, a2, a3⟩ hD
    have hw := Lib.hid (a1.below (m := w.heap.size) (fun b e => by rw [e]; omega) z03 hw3)
    have lt1 := a1.lt m1
    clear a1
    gi_wp2
    have d1 : (W.setCell ⟨w.heap.size + 1, 0, none⟩ (.int .i64 ys.length)).cell? ⟨w.heap.size + 1, 0, none⟩ = some (.int .i64 (ys.length : Nat)) := World.cell?_setCell_same' _ _ _ (by rw [a2]; rfl)
    have hw2 : Below w.heap.size w (W.setCell ⟨w.heap.size + 1, 0, none⟩ (.int .i64 ys.length)) := hw.out.setCell (by show w.heap.size ≤ w.heap.size + 1; omega) _
    refine leave_turn (v := .tuple #[.int .i64 ys.length, .int .i64 0]) ((Below.heap_setCell _ _ _ _ (by show W3.heap.size ≠ w.heap.size + 1; omega)).trans hD) (fun W' ht => ?_) (fun W' ht => ⟨rfl, ht.below (by omega) (by simp; omega) hw2⟩)
    have d1' := (ht.cell (p := ⟨w.heap.size + 1, 0, none⟩) (by simp; omega) (by constructor <;> (show w.heap.size + 1 ≠ _; omega))).trans d1
    simp [results, Try.results21, go_sem, d1']
  case hstop => exact fun c W h => h.elim

end Go.Proofs.Ytcinhibmohkeiaa
