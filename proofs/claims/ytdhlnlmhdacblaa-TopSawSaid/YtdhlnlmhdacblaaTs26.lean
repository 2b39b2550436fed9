/- Sawn of scrap (layer 11). -/
import Derived.Test.YtdhlnlmhdacblaaTs25
import Derived.Test.YtdhlnlmhdacblaaTs17
import Derived.Test.YtdhlnlmhdacblaaTs24
import Derived.Deep.DrawnRows
import Derived.Deep.DeepCutAuto
import Derived.Deep.RegionLaw
namespace Go.Proofs.Ytdhlnlmhdacblaa
open Go.RowKit
open Go.Sort (grow)
set_option linter.unusedVariables false
set_option linter.unusedSimpArgs false

attribute [local go_sem ↓] Go.wp_at_zero Go.wp_at_succ
section
variable {P : Program} {ops : Array Oper} {Q : Exit → Act → World → Prop} {S : World → Prop} {m : Nat}
/-- three may come up -/
theorem wpAnyL_three {i j l : Nat} {o1 o2 o3 : Oper} {fuel : Nat} {listed : Array Bool} {a : Act} {w : World} (hr : Region.ready .any ops listed = [i, j, l]) (ho1 : ops[i]? = some o1) (ho2 : ops[j]? = some o2) (ho3 : ops[l]? = some o3)
    (h1 : ∀ K : Act → World → Prop, Shut (∀ a' w', (i ≠ m → S w') → ((i ≠ m → S w') → wpAnyL P ops Q S m fuel (listed.setIfInBounds i true) a' w') → K a' w') → if Region.wanted o1 (yielded ops a.tmps) = true then Oper.wp P o1 a w K Q else K (a.put o1.dst undef) w)
    (h2 : ∀ K : Act → World → Prop, Shut (∀ a' w', (j ≠ m → S w') → ((j ≠ m → S w') → wpAnyL P ops Q S m fuel (listed.setIfInBounds j true) a' w') → K a' w') → if Region.wanted o2 (yielded ops a.tmps) = true then Oper.wp P o2 a w K Q else K (a.put o2.dst undef) w)
    (h3 : ∀ K : Act → World → Prop, Shut (∀ a' w', (l ≠ m → S w') → ((l ≠ m → S w') → wpAnyL P ops Q S m fuel (listed.setIfInBounds l true) a' w') → K a' w') → if Region.wanted o3 (yielded ops a.tmps) = true then Oper.wp P o3 a w K Q else K (a.put o3.dst undef) w) :
    wpAnyL P ops Q S m (fuel + 1) listed a w := by
  refine ⟨fun h0 => (by rw [h0] at hr; cases hr), fun k hk => ?_⟩
  rw [hr] at hk
  rcases List.mem_cons.1 hk with rfl | hk
  · exact wpOp_step ho1 fun K' hK => h1 K' fun a' w' h1 h2 => hK a' w' ⟨h1, h2 h1⟩
  · rcases List.mem_cons.1 hk with rfl | hk
    · exact wpOp_step ho2 fun K' hK => h2 K' fun a' w' h1 h2 => hK a' w' ⟨h1, h2 h1⟩
    · obtain rfl : k = l := by simpa using hk
      exact wpOp_step ho3 fun K' hK => h3 K' fun a' w' h1 h2 => hK a' w' ⟨h1, h2 h1⟩
end
theorem okB_nil {bs : List Br} {ps : List Pc} {kf wrg : Int} {nb np : Nat} (ok : OkSt bs ps kf nb np) (h : 0 ≤ wrg) : okB bs ps kf wrg [] = true := by
  refine okB_iff.2 ⟨fun b hb => ?_, by simpa [wgB] using h⟩
  have h0 : rsB bs ps kf [] b = (brAt bs b).long := by simp [rsB, smB]
  have := (ok.br b (by rw [← ok.bl]; exact hb)).1
  omega
theorem fold_le {α : Type} {f : α → Nat} {B : Nat} : ∀ {T : List α} {x : Nat}, (∀ m ∈ T, f m ≤ B) → x ≤ B → T.foldl (fun x m => max x (f m)) x ≤ B
  | [], _, _, h => h
  | m :: T, x, h, hx => by
    rw [List.foldl_cons]
    have := h m (by simp)
    exact fold_le (fun n hn => h n (by simp [hn])) (by omega)
theorem cutV_le {bs : List Br} {ps : List Pc} {kf wr : Int} {p : Nat} {l : List Nat} {best nb : Nat} (hb : bs.length ≤ nb) (h : best ≤ nb) : cutV bs ps kf wr p l best ≤ nb :=
  fold_le (fun m _ => Nat.le_trans (usL_le _ _) hb) h
theorem mul_small {a b : Int} (ha : 0 ≤ a ∧ a ≤ 20) (hb : -20 ≤ b ∧ b ≤ 20) : -400 ≤ a * b ∧ a * b ≤ 400 := by
  have h1 : a * b ≤ a * 20 := Int.mul_le_mul_of_nonneg_left hb.2 ha.1
  have h2 : a * (-20) ≤ a * b := Int.mul_le_mul_of_nonneg_left hb.1 ha.1
  omega
/-- the rests after the first k bars were laid -/
def rsI (bs : List Br) (nb k : Nat) : List Int := (List.range nb).map fun b => if b < k then (brAt bs b).long else 0
theorem rsI_0 {bs : List Br} {nb : Nat} : rsI bs nb 0 = List.replicate nb 0 := by
  unfold rsI
  refine List.ext_getElem (by simp) fun i h1 h2 => ?_
  simp
theorem rsI_succ {bs : List Br} {nb k : Nat} (hk : k < nb) : (rsI bs nb k).set k (brAt bs k).long = rsI bs nb (k + 1) := by
  unfold rsI
  refine List.ext_getElem (by simp) fun i h1 h2 => ?_
  rw [List.getElem_set]
  by_cases e : k = i
  · subst e
    rw [if_pos rfl, List.getElem_map, List.getElem_range, if_pos (Nat.lt_succ_self _)]
  · rw [if_neg e, List.getElem_map, List.getElem_map, List.getElem_range]
    by_cases h : i < k
    · rw [if_pos h, if_pos (by omega)]
    · rw [if_neg h, if_neg (by omega)]
theorem sw_nil {bs : List Br} {ps : List Pc} {kf : Int} : (swOf bs ps kf []).rests = rsI bs bs.length bs.length ∧ (swOf bs ps kf []).cuts = List.replicate bs.length 0 := by
  have h0 : ∀ b, rsB bs ps kf [] b = (brAt bs b).long := fun b => by simp [rsB, smB]
  unfold swOf rsI
  refine ⟨List.ext_getElem (by simp) fun i h1 h2 => ?_, List.ext_getElem (by simp) fun i h1 h2 => ?_⟩
  · simp only [List.length_map, List.length_range] at h1
    rw [List.getElem_map, List.getElem_map, List.getElem_range, h0, if_pos h1]
  · simp
def zC : Array Value := #[.slice none 0 0, .int .i64 0, .slice none 0 0, .int .i64 0, .slice none 0 0, .slice none 0 0, .int .i64 0]
theorem own_alloc {w : World} {base : Nat} {e : TypeId} {size : Nat} {v : Value} {n : Nat} {xs : List Value} (h : w.ownsRow base e size v n xs) (o : Obj) : (w.alloc o).ownsRow base e size v n xs := own_below h ((Below.refl _ _).alloc (Nat.le_refl _) o)
theorem made3 {w Z : World} {nb : Nat} (hn : nb ≤ 1000) (hZ : ((w.alloc (.cells (mkC nb) 3)).alloc (.cells (mkC nb) 3)).alloc (.cells #[.slice none 0 0, .int .i64 0, .slice none 0 0, .int .i64 0, .slice none 0 0, .slice none 0 0, .int .i64 0] 68) = Z) :
    Blk Z (w.heap.size + 1 + 1) 68 zC ∧ Z.ownsRow w.heap.size 3 1 (.slice (some ⟨w.heap.size, 0, none⟩) nb nb) nb ((List.replicate nb (0 : Int)).flatMap encI) ∧ Z.ownsRow w.heap.size 3 1 (.slice (some ⟨w.heap.size + 1, 0, none⟩) nb nb) nb ((List.replicate nb (0 : Int)).flatMap encI) ∧ Below w.heap.size w Z := by
  subst hZ
  have h1 := mk_own w nb hn
  have h2 := mk_own (w.alloc (.cells (mkC nb) 3)) nb hn
  have h3 := Blk.new ((w.alloc (.cells (mkC nb) 3)).alloc (.cells (mkC nb) 3)) 68 #[.slice none 0 0, .int .i64 0, .slice none 0 0, .int .i64 0, .slice none 0 0, .slice none 0 0, .int .i64 0]
  simp only [World.size_alloc] at h2 h3
  refine ⟨h3, own_alloc (own_alloc h1 _) _, own_mono (own_alloc h2 _) (by omega), ?_⟩
  · exact (((Below.refl _ _).alloc (Nat.le_refl _) _).alloc (by simp) _).alloc (by simp; omega) _
theorem made2 {w Z : World} {nb : Nat} (hn : nb ≤ 1000) (hZ : ((w.alloc (.cells (mkC nb) 3)).alloc (.cells #[.slice none 0 0, .int .i64 0, .slice none 0 0, .int .i64 0, .slice none 0 0, .slice none 0 0, .int .i64 0] 68)).alloc (.cells (mkC nb) 3) = Z) :
    Blk Z (w.heap.size + 1) 68 zC ∧ Z.ownsRow w.heap.size 3 1 (.slice (some ⟨w.heap.size, 0, none⟩) nb nb) nb ((List.replicate nb (0 : Int)).flatMap encI) ∧ Z.ownsRow w.heap.size 3 1 (.slice (some ⟨w.heap.size + 1 + 1, 0, none⟩) nb nb) nb ((List.replicate nb (0 : Int)).flatMap encI) ∧ Below w.heap.size w Z := by
  subst hZ
  have h1 := mk_own w nb hn
  have h2 := mk_own ((w.alloc (.cells (mkC nb) 3)).alloc (.cells #[.slice none 0 0, .int .i64 0, .slice none 0 0, .int .i64 0, .slice none 0 0, .slice none 0 0, .int .i64 0] 68)) nb hn
  have h3 := Blk.new (w.alloc (.cells (mkC nb) 3)) 68 #[.slice none 0 0, .int .i64 0, .slice none 0 0, .int .i64 0, .slice none 0 0, .slice none 0 0, .int .i64 0]
  simp only [World.size_alloc] at h2 h3
  refine ⟨h3.alloc _, own_alloc (own_alloc h1 _) _, own_mono h2 (by omega), ?_⟩
  · exact (((Below.refl _ _).alloc (Nat.le_refl _) _).alloc (by simp) _).alloc (by simp; omega) _
theorem made1 {w Z : World} {nb : Nat} (hn : nb ≤ 1000) (hZ : ((w.alloc (.cells #[.slice none 0 0, .int .i64 0, .slice none 0 0, .int .i64 0, .slice none 0 0, .slice none 0 0, .int .i64 0] 68)).alloc (.cells (mkC nb) 3)).alloc (.cells (mkC nb) 3) = Z) :
    Blk Z w.heap.size 68 zC ∧ Z.ownsRow w.heap.size 3 1 (.slice (some ⟨w.heap.size + 1, 0, none⟩) nb nb) nb ((List.replicate nb (0 : Int)).flatMap encI) ∧ Z.ownsRow w.heap.size 3 1 (.slice (some ⟨w.heap.size + 1 + 1, 0, none⟩) nb nb) nb ((List.replicate nb (0 : Int)).flatMap encI) ∧ Below w.heap.size w Z := by
  subst hZ
  have h1 := mk_own (w.alloc (.cells #[.slice none 0 0, .int .i64 0, .slice none 0 0, .int .i64 0, .slice none 0 0, .slice none 0 0, .int .i64 0] 68)) nb hn
  have h2 := mk_own ((w.alloc (.cells #[.slice none 0 0, .int .i64 0, .slice none 0 0, .int .i64 0, .slice none 0 0, .slice none 0 0, .int .i64 0] 68)).alloc (.cells (mkC nb) 3)) nb hn
  have h3 := Blk.new w 68 #[.slice none 0 0, .int .i64 0, .slice none 0 0, .int .i64 0, .slice none 0 0, .slice none 0 0, .int .i64 0]
  simp only [World.size_alloc] at h1 h2 h3
  refine ⟨(h3.alloc _).alloc _, own_mono (own_alloc h1 _) (by omega), own_mono h2 (by omega), ?_⟩
  · exact (((Below.refl _ _).alloc (Nat.le_refl _) _).alloc (by simp) _).alloc (by simp; omega) _
theorem cut_init {w Z : World} {go gr gc nb cb np cp lo : Nat} {Ab Ap : Option Addr} {kf wrg : Int} (hk : Blk Z go 68 zC) (o2 : Z.ownsRow w.heap.size 3 1 (.slice (some ⟨gr, 0, none⟩) nb nb) nb ((List.replicate nb (0 : Int)).flatMap encI)) (o3 : Z.ownsRow w.heap.size 3 1 (.slice (some ⟨gc, 0, none⟩) nb nb) nb ((List.replicate nb (0 : Int)).flatMap encI))
    (hb : Below w.heap.size w Z) (ne : gr ≠ go ∧ gc ≠ go ∧ gr ≠ gc) (ge : w.heap.size ≤ go) {Z' : World} (hZ : ((((((Z.setCell ⟨go, 0, none⟩ (.slice Ab nb cb)).setCell ⟨go, 1, none⟩ (.int .i64 kf)).setCell ⟨go, 2, none⟩ (.slice Ap np cp)).setCell ⟨go, 3, none⟩ (.int .i64 wrg)).setCell ⟨go, 4, none⟩ (.slice (some ⟨gr, 0, none⟩) nb nb)).setCell ⟨go, 5, none⟩ (.slice (some ⟨gc, 0, none⟩) nb nb)).setCell ⟨go, 6, none⟩ (.int .i64 lo) = Z') :
    CutM w.heap.size go gr gc nb nb nb Ab cb kf Ap np cp wrg (List.replicate nb 0) (List.replicate nb 0) lo Z' ∧ Below w.heap.size w Z' := by
  subst hZ
  have n1 : ∀ k, (Value.slice (some ⟨gr, 0, none⟩) nb nb).ownBlock = some k → k ≠ go := fun k hk => by cases hk; exact ne.1
  have n2 : ∀ k, (Value.slice (some ⟨gc, 0, none⟩) nb nb).ownBlock = some k → k ≠ go := fun k hk => by cases hk; exact ne.2.1
  refine ⟨⟨?_, own_set (own_set (own_set (own_set (own_set (own_set (own_set o2 n1) n1) n1) n1) n1) n1) n1, own_set (own_set (own_set (own_set (own_set (own_set (own_set o3 n2) n2) n2) n2) n2) n2) n2, by simp, by simp, ne, ge⟩, ?_⟩
  · have h := ((((((hk.set_ 0 (.slice Ab nb cb)).set_ 1 (.int .i64 kf)).set_ 2 (.slice Ap np cp)).set_ 3 (.int .i64 wrg)).set_ 4 (.slice (some ⟨gr, 0, none⟩) nb nb)).set_ 5 (.slice (some ⟨gc, 0, none⟩) nb nb)).set_ 6 (.int .i64 lo)
    simpa [zC] using h
  · exact ((((((hb.setCell ge _).setCell ge _).setCell ge _).setCell ge _).setCell ge _).setCell ge _).setCell ge _
/-- the sum of the first k -/
def brT (bs : List Br) (k : Nat) : Int := ((List.range k).map fun b => (brAt bs b).long).sum
def pcT (ps : List Pc) (k : Nat) : Int := ((List.range k).map fun b => (pcAt ps b).long).sum
theorem brT_succ {bs : List Br} {k : Nat} : brT bs (k + 1) = brT bs k + (brAt bs k).long := sum_succ
theorem pcT_succ {ps : List Pc} {k : Nat} : pcT ps (k + 1) = pcT ps k + (pcAt ps k).long := sum_succ
theorem brT_all {bs : List Br} : brT bs bs.length = brS bs := brS_sum
theorem pcT_all {ps : List Pc} : pcT ps ps.length = pcS ps := by
  unfold pcT pcS
  congr 1
  refine List.ext_getElem (by simp) fun i h1 h2 => ?_
  simp only [List.length_map] at h2
  rw [List.getElem_map, List.getElem_range, List.getElem_map]
  unfold pcAt
  rw [List.getD_eq_getElem?_getD, List.getElem?_eq_getElem h2]; rfl
theorem brT_le {bs : List Br} {nb : Nat} (h : ∀ k, k < nb → 1 ≤ (brAt bs k).long ∧ (brAt bs k).long ≤ 999) : ∀ k, k ≤ nb → 0 ≤ brT bs k ∧ brT bs k ≤ 999 * k := by
  intro k
  induction k with
  | zero => intro _; simp [brT]
  | succ k ih =>
    intro hk
    have h1 := ih (by omega)
    have h2 := h k (by omega)
    rw [brT_succ]
    omega
theorem pcT_le {ps : List Pc} {np : Nat} (h : ∀ k, k < np → 1 ≤ (pcAt ps k).long ∧ (pcAt ps k).long ≤ 999) : ∀ k, k ≤ np → 0 ≤ pcT ps k ∧ pcT ps k ≤ 999 * k := by
  intro k
  induction k with
  | zero => intro _; simp [pcT]
  | succ k ih =>
    intro hk
    have h1 := ih (by omega)
    have h2 := h k (by omega)
    rw [pcT_succ]
    omega
section
variable (Ab Ap : Option Addr) (nb cb np cp : Nat) (kf wrg : Int) (bs : List Br) (ms : List Pm) (ps : List Pc) (w : World)
set_option maxRecDepth 100000 in
set_option maxHeartbeats 3200000 in
theorem sawnE_c (h1 : nb ≤ 40) (h2 : np ≤ 40) (h3 : ∀ k, k < np → (pcAt ps k).hs.length ≤ 40) (HB : BrsAt w Ab nb bs) (HP : PcsAt w Ap np ms ps) (hz : askE bs ps kf wrg true ≠ 0) :
    Calls Try.prog 8 #[.agg #[.slice Ab nb cb, .int .i64 kf, .slice Ap np cp, .int .i64 wrg]] w fun e w' => e = .returned (.tuple #[.agg #[.int .i64 0, .int .i64 0], .agg #[.int .i64 0, .int .i64 0], .int .i64 (askE bs ps kf wrg true)]) ∧ Below w.heap.size w w' := by
  have hle := Lib.hid (fun W (hb : Below w.heap.size w W) => least_c Ab Ap nb cb np cp kf wrg bs ms ps W h1 h2 h3 (HB.later hb) (HP.later hb))
  obtain ⟨z, hzz⟩ : ∃ z, askE bs ps kf wrg true = z := ⟨_, rfl⟩
  rw [hzz] at hle hz ⊢
  have hzB : (z != 0) = true := by simpa using hz
  clear HB HP h3 hzz
  go_enter Try.func8, Try.ntmps8
  go_upto_region 1 with (fail)
  go_name_world W hW
  obtain ⟨hB, hz⟩ := al3 hW
  obtain ⟨l_0, q_0, f_0⟩ := al3_0 hW
  obtain ⟨l_1, q_1, f_1⟩ := al3_1 hW
  obtain ⟨l_2, q_2, f_2⟩ := al3_2 hW
  have HZ := Lib.hid hz
  have zs := hB.size
  clear hW hz
  go_upto_region 2 with (go_at_call 25; with_reducible refine (hle.out _ (by (repeat first | with_reducible assumption | with_reducible exact Below.refl _ _ | (with_reducible refine Below.alloc ?_ ?side _; case side => (first | omega | (with_reducible exact Below.size (by assumption)) | (simp; done) | (simp; omega))) | (with_reducible refine Below.setCell ?_ ?side _; case side => (first | omega | (with_reducible exact Below.size (by assumption)) | (simp; done) | (simp; omega))) | with_reducible refine Below.drew ?_ | with_reducible refine below_drewN ?_ _ | (with_reducible refine below_step (by assumption) ?side ?_; case side => (first | omega | (with_reducible exact Below.size (by assumption)) | (simp; done) | (simp; omega)))))).mono ?_; rintro e w5 ⟨rfl, hb5⟩)
  have zz := hb5.size
  have n1 : w.heap.size + 1 < w5.heap.size := by omega
  have n2 : w.heap.size + 1 + 1 < w5.heap.size := by omega
  have c1 := fun j => (hb5.cell (p := ⟨w.heap.size + 1, j, none⟩) l_1).trans (q_1 j)
  have c2 := fun j => (hb5.cell (p := ⟨w.heap.size + 1 + 1, j, none⟩) l_2).trans (q_2 j)
  have g1 := fun j => (hb5.frozen (p := ⟨w.heap.size + 1, j, none⟩) l_1).trans (f_1 j)
  have g2 := fun j => (hb5.frozen (p := ⟨w.heap.size + 1 + 1, j, none⟩) l_2).trans (f_2 j)
  have BB : Below w.heap.size w w5 := hB.trans (hb5.mono zs)
  clear hb5 hB q_0 q_1 q_2 f_0 f_1 f_2
  go_upto_region 3 with (fail)
  go_region
  all_goals
    go_wp2_with fail
    exact bodyPost_ret (v := .tuple #[.agg #[.int .i64 0, .int .i64 0], .agg #[.int .i64 0, .int .i64 0], .int .i64 z]) (by simp [results, Try.results8, go_sem, c1, c2]) rfl ⟨rfl, by (repeat first | with_reducible assumption | with_reducible exact Below.refl _ _ | (with_reducible refine Below.alloc ?_ ?side _; case side => (first | omega | (with_reducible exact Below.size (by assumption)) | (simp; done) | (simp; omega))) | (with_reducible refine Below.setCell ?_ ?side _; case side => (first | omega | (with_reducible exact Below.size (by assumption)) | (simp; done) | (simp; omega))) | with_reducible refine Below.drew ?_ | with_reducible refine below_drewN ?_ _ | (with_reducible refine below_step (by assumption) ?side ?_; case side => (first | omega | (with_reducible exact Below.size (by assumption)) | (simp; done) | (simp; omega))))⟩
set_option maxRecDepth 100000 in
set_option maxHeartbeats 6400000 in
theorem sawnO_c (lo : Nat) (h1 : nb ≤ 40) (h2 : np ≤ 40) (h3 : ∀ k, k < np → (pcAt ps k).hs.length ≤ 40) (HB : BrsAt w Ab nb bs) (HP : PcsAt w Ap np ms ps) (hz : askE bs ps kf wrg true = 0) (hlo : leastP bs ps kf wrg = lo)
    (cl ch rl rh : Int) (e1 : cl = kf * ((np : Int) - (cutV bs ps kf wrg np [] lo : Nat))) (e2 : ch = kf * ((np : Int) - lo)) (e3 : rl = brS bs - pcS ps - ch) (e4 : rh = brS bs - pcS ps - cl) :
    Calls Try.prog 8 #[.agg #[.slice Ab nb cb, .int .i64 kf, .slice Ap np cp, .int .i64 wrg]] w fun e w' => e = .returned (.tuple #[.agg #[.int .i64 rl, .int .i64 rh], .agg #[.int .i64 cl, .int .i64 ch], .int .i64 0]) ∧ Below w.heap.size w w' := by
  have hck := (askE_0 hz).1
  have hbl := HB.1
  have hpl := HP.pl
  have hv := ckS_vals hck
  rw [hbl, hpl] at hv
  obtain ⟨v1, v2, v3, v4, v5, v6⟩ := hv
  have hlon : lo ≤ nb := by
    rcases least_ok hck with ⟨-, e⟩ | ⟨l, -, e, -⟩
    · omega
    · have := usL_le bs.length l
      omega
  have hle := Lib.hid (fun W (hb : Below w.heap.size w W) => least_c Ab Ap nb cb np cp kf wrg bs ms ps W h1 h2 h3 (HB.later hb) (HP.later hb))
  rw [hz, hlo] at hle
  have HBI := Lib.hid HB
  have HPI := Lib.hid HP
  have OK := Lib.hid (okSt_of hbl hpl h3 hck)
  have V5 := Lib.hid v5
  have V6 := Lib.hid v6
  have BT := Lib.hid (brT_le (bs := bs) (nb := nb) fun k hk => (v5 k hk).2)
  have PT := Lib.hid (pcT_le (ps := ps) (np := np) fun k hk => (v6 k hk).1)
  have BA := Lib.hid (brT_all (bs := bs))
  have PA := Lib.hid (pcT_all (ps := ps))
  rw [hbl] at BA
  rw [hpl] at PA
  have E1 := Lib.hid e1
  have E2 := Lib.hid e2
  have E3 := Lib.hid e3
  have E4 := Lib.hid e4
  clear HB HP h3 hz hlo hck v5 v6 e1 e2 e3 e4 hbl hpl
  go_enter Try.func8, Try.ntmps8
  go_upto_region 1 with (fail)
  go_name_world W hW
  have hB := (al3 hW).1
  have zW : W.heap.size = w.heap.size + 3 := (al3 hW).2
  have q_0 := (al3_0 hW).2.1
  have K1 : Blk W (w.heap.size + 1) 29 #[.int .i64 0, .int .i64 0] := by
    rw [← hW]
    have h := (Blk.new (w.alloc (.cells #[.slice Ab nb cb, .int .i64 kf, .slice Ap np cp, .int .i64 wrg] 25)) 29 #[.int .i64 0, .int .i64 0]).alloc (.cells #[.int .i64 0, .int .i64 0] 29)
    simp only [World.size_alloc] at h
    exact h
  have K2 : Blk W (w.heap.size + 1 + 1) 29 #[.int .i64 0, .int .i64 0] := by
    rw [← hW]
    have h := Blk.new ((w.alloc (.cells #[.slice Ab nb cb, .int .i64 kf, .slice Ap np cp, .int .i64 wrg] 25)).alloc (.cells #[.int .i64 0, .int .i64 0] 29)) 29 #[.int .i64 0, .int .i64 0]
    simp only [World.size_alloc] at h
    exact h
  replace K1 := Lib.hid K1
  replace K2 := Lib.hid K2
  have l_0 : w.heap.size < W.heap.size := by omega
  clear hW
  go_upto_region 2 with (go_at_call 25; with_reducible refine (hle.out _ (by (repeat first | with_reducible assumption | with_reducible exact Below.refl _ _ | (with_reducible refine Below.alloc ?_ ?side _; case side => (first | omega | (with_reducible exact Below.size (by assumption)) | (simp; done) | (simp; omega))) | (with_reducible refine Below.setCell ?_ ?side _; case side => (first | omega | (with_reducible exact Below.size (by assumption)) | (simp; done) | (simp; omega))) | with_reducible refine Below.drew ?_ | with_reducible refine below_drewN ?_ _ | (with_reducible refine below_step (by assumption) ?side ?_; case side => (first | omega | (with_reducible exact Below.size (by assumption)) | (simp; done) | (simp; omega)))))).mono ?_; rintro e w5 ⟨rfl, hb5⟩)
  have zz := hb5.size
  have z5 : w.heap.size + 3 ≤ w5.heap.size := by omega
  have c0 := Lib.hid (fun j => (hb5.cell (p := ⟨w.heap.size, j, none⟩) l_0).trans (q_0 j))
  have L1 := Lib.hid (K1.out.below hb5 K1.out.lt)
  have L2 := Lib.hid (K2.out.below hb5 K2.out.lt)
  have BB : Below w.heap.size w w5 := hB.trans (hb5.mono (by omega))
  have BBH := Lib.hid BB
  have n0 : w.heap.size < w5.heap.size := by omega
  have n1 : w.heap.size + 1 < w5.heap.size := by omega
  have n2 : w.heap.size + 1 + 1 < w5.heap.size := by omega
  have cc := c0.out
  clear hb5 hB K1 K2 q_0 l_0 zW zz BB
  go_upto_region 6 with (fail)
  clear cc
  go_loopw [6, 27] (fun s i (wr : World) => ∃ k : Nat, k ≤ nb ∧ s = .int .i64 (brT bs k) ∧ i = .int .i64 k ∧ Below w5.heap.size w5 wr) (fun _ i _ => nb - (intOf i).toNat)
  case atStart => exact ⟨0, by omega, rfl, rfl, Below.refl _ _⟩
  case round =>
    obtain ⟨k, hk, rfl, rfl, hb⟩ := hrel
    have hbw : Below w.heap.size w wr := BBH.out.trans (hb.mono BBH.out.size)
    have zb := hb.size
    have m0 : w.heap.size < wr.heap.size := by omega
    by_cases hkn : k < nb
    · have hqB : decide ((k : Int) < nb) = true := by simp; omega
      obtain ⟨bb, bo, hAbe, hbb, y0, y1⟩ := (HBI.out.later hbw).get hkn
      subst hAbe
      have hbt := BT.out k hk
      have hbl := (V5.out k hkn).2
      have hsc := brT_succ (bs := bs) (k := k)
      obtain ⟨sm, hsm⟩ : ∃ s, brT bs k = s := ⟨_, rfl⟩
      obtain ⟨sm', hsm'⟩ : ∃ s, brT bs (k + 1) = s := ⟨_, rfl⟩
      obtain ⟨lg, hlg⟩ : ∃ s, (brAt bs k).long = s := ⟨_, rfl⟩
      rw [hsm, hsm', hlg] at hsc
      rw [hsm] at hbt ⊢
      rw [hlg] at y1 hbl
      have hw : IntKind.i64.wrap (sm + lg) = sm' := by rw [hsc]; exact IntWalk.i64_in _ (by omega)
      have HS := Lib.hid hsm'
      clear hsc hsm hsm' hlg
      go_wp2_with fail
      go_roundw
      case rel => exact ⟨k + 1, by omega, by rw [HS.out], by go_num, by (repeat first | with_reducible assumption | with_reducible exact Below.refl _ _ | (with_reducible refine Below.alloc ?_ ?side _; case side => (first | omega | (with_reducible exact Below.size (by assumption)) | (simp; done) | (simp; omega))) | (with_reducible refine Below.setCell ?_ ?side _; case side => (first | omega | (with_reducible exact Below.size (by assumption)) | (simp; done) | (simp; omega))) | with_reducible refine Below.drew ?_ | with_reducible refine below_drewN ?_ _ | (with_reducible refine below_step (by assumption) ?side ?_; case side => (first | omega | (with_reducible exact Below.size (by assumption)) | (simp; done) | (simp; omega))))⟩
      case measure => simp [intOf]; omega
    · obtain rfl : nb = k := by omega
      have hqB : decide (((nb : Nat) : Int) < nb) = false := by simp
      have cc := fun j => (hb.cell (p := ⟨w.heap.size, j, none⟩) n0).trans (c0.out j)
      have hbs := BT.out nb (Nat.le_refl _)
      rw [BA.out] at hbs ⊢
      go_upto_region 11 with (fail)
      clear cc
      obtain ⟨wo, rfl⟩ : ∃ wo : World, wo = wr := ⟨_, rfl⟩
      have c0o := Lib.hid (fun j => (hb.cell (p := ⟨w.heap.size, j, none⟩) n0).trans (c0.out j))
      have L1o := Lib.hid (L1.out.below hb n1)
      have L2o := Lib.hid (L2.out.below hb n2)
      have BBo := Lib.hid hbw
      have m1 : w.heap.size + 1 < wo.heap.size := by omega
      have m2 : w.heap.size + 1 + 1 < wo.heap.size := by omega
      have z5o : w.heap.size + 3 ≤ wo.heap.size := by omega
      clear hb hbw L1 L2 c0 BBH n0 n1 n2 z5 zb hk hkn hqB
      obtain ⟨S0, hS0⟩ : ∃ s, brS bs = s := ⟨_, rfl⟩
      rw [hS0] at hbs E3 E4 ⊢
      clear hS0 BA
      go_loopw [6, 39] (fun s i (ws : World) => ∃ k : Nat, k ≤ np ∧ s = .int .i64 (S0 - pcT ps k) ∧ i = .int .i64 k ∧ Below wo.heap.size wo ws) (fun _ i _ => np - (intOf i).toNat)
      case atStart => exact ⟨0, by omega, by simp [pcT], rfl, Below.refl _ _⟩
      case round =>
        obtain ⟨k, hk, rfl, rfl, hb⟩ := hrel
        have hbw : Below w.heap.size w wr := BBo.out.trans (hb.mono BBo.out.size)
        have zb := hb.size
        have m3 : w.heap.size < wr.heap.size := by omega
        by_cases hkn : k < np
        · have hqB : decide ((k : Int) < np) = true := by simp; omega
          obtain ⟨bb, bo, hAbe, hbb, y0, y1, -⟩ := (HPI.out.later hbw).get hkn
          subst hAbe
          have hbt := PT.out k hk
          have hbl := (V6.out k hkn).1
          have hsc := pcT_succ (ps := ps) (k := k)
          obtain ⟨sm, hsm⟩ : ∃ s, pcT ps k = s := ⟨_, rfl⟩
          obtain ⟨sm', hsm'⟩ : ∃ s, pcT ps (k + 1) = s := ⟨_, rfl⟩
          obtain ⟨lg, hlg⟩ : ∃ s, (pcAt ps k).long = s := ⟨_, rfl⟩
          rw [hsm, hsm', hlg] at hsc
          rw [hsm] at hbt ⊢
          rw [hlg] at y0 hbl
          obtain ⟨sn, hsn⟩ : ∃ s, S0 - sm = s := ⟨_, rfl⟩
          obtain ⟨sn', hsn'⟩ : ∃ s, S0 - sm' = s := ⟨_, rfl⟩
          rw [hsn]
          have hw : IntKind.i64.wrap (sn - lg) = sn' := by rw [← hsn', IntWalk.i64_in _ (by omega)]; omega
          have HS : Hid (sn' = S0 - pcT ps (k + 1)) := Lib.hid (by rw [← hsn', ← hsm'])
          clear hsc hsm hsm' hlg hsn hsn'
          go_wp2_with fail
          go_roundw
          case rel => exact ⟨k + 1, by omega, by rw [← HS.out], by go_num, by (repeat first | with_reducible assumption | with_reducible exact Below.refl _ _ | (with_reducible refine Below.alloc ?_ ?side _; case side => (first | omega | (with_reducible exact Below.size (by assumption)) | (simp; done) | (simp; omega))) | (with_reducible refine Below.setCell ?_ ?side _; case side => (first | omega | (with_reducible exact Below.size (by assumption)) | (simp; done) | (simp; omega))) | with_reducible refine Below.drew ?_ | with_reducible refine below_drewN ?_ _ | (with_reducible refine below_step (by assumption) ?side ?_; case side => (first | omega | (with_reducible exact Below.size (by assumption)) | (simp; done) | (simp; omega))))⟩
          case measure => simp [intOf]; omega
        · obtain rfl : np = k := by omega
          have hqB : decide (((np : Nat) : Int) < np) = false := by simp
          have cc := fun j => (hb.cell (p := ⟨w.heap.size, j, none⟩) m0).trans (c0o.out j)
          have hps := PT.out np (Nat.le_refl _)
          rw [PA.out] at hps ⊢
          go_upto_region 15 with (fail)
          clear cc
          obtain ⟨wp, rfl⟩ : ∃ wp : World, wp = wr := ⟨_, rfl⟩
          have c0p := Lib.hid (fun j => (hb.cell (p := ⟨w.heap.size, j, none⟩) m0).trans (c0o.out j))
          have L1p := Lib.hid (L1o.out.below hb m1)
          have L2p := Lib.hid (L2o.out.below hb m2)
          have BBp := Lib.hid hbw
          have HBp := Lib.hid (HBI.out.later hbw)
          have HPp := Lib.hid (HPI.out.later hbw)
          have z5p : w.heap.size + 3 ≤ wp.heap.size := by omega
          clear hb hbw L1o L2o c0o BBo m0 m1 m2 m3 z5o zb hk hkn hqB
          obtain ⟨P0, hP0⟩ : ∃ s, pcS ps = s := ⟨_, rfl⟩
          rw [hP0] at hps E3 E4 ⊢
          clear hP0 PA
          obtain ⟨LV, hLV⟩ : ∃ s, S0 - P0 = s := ⟨_, rfl⟩
          rw [hLV] at E3 E4 ⊢
          have hLVb : -8000 ≤ LV ∧ LV ≤ 8000 := by omega
          clear hLV hps hbs
          have hmk := fun W => mk_ints W nb (by omega)
          have HS := Lib.hid (fun W' (h : Below wp.heap.size wp W') => fun j => (h.cell (p := ⟨w.heap.size, j, none⟩) (by show w.heap.size < _; omega)).trans (c0p.out j))
          have hS := HS.out wp.drew (by (repeat first | with_reducible assumption | with_reducible exact Below.refl _ _ | (with_reducible refine Below.alloc ?_ ?side _; case side => (first | omega | (with_reducible exact Below.size (by assumption)) | (simp; done) | (simp; omega))) | (with_reducible refine Below.setCell ?_ ?side _; case side => (first | omega | (with_reducible exact Below.size (by assumption)) | (simp; done) | (simp; omega))) | with_reducible refine Below.drew ?_ | with_reducible refine below_drewN ?_ _ | (with_reducible refine below_step (by assumption) ?side ?_; case side => (first | omega | (with_reducible exact Below.size (by assumption)) | (simp; done) | (simp; omega)))))
          go_cut [11] (fun s wx => ∃ go gr gc, s = .pointer (some ⟨go, 0, none⟩) ∧ Hid (CutM wp.heap.size go gr gc nb nb nb Ab cb kf Ap np cp wrg (List.replicate nb 0) (List.replicate nb 0) lo wx) ∧ Hid (Below wp.heap.size wp wx))
          case first =>
            refine wp_region_L (by kernel_rfl) (fun W' => ∀ j, W'.cell? ⟨w.heap.size, j, none⟩ = #[Value.slice Ab nb cb, .int .i64 kf, .slice Ap np cp, .int .i64 wrg][j]?) 12 ?_
            refine wpAnyL_take (i := 0) (v := ?_) rfl (by kernel_rfl) (by kernel_rfl) (by kernel_rfl) (by kernel_rfl) (fun _ _ _ h => h) hS (Or.inl ⟨by rfl, ?_⟩) ?_
            rotate_left 1
            · intro w9 hw9
              have k0 := hw9
              go_simp
              try with_reducible rfl
            simp only [List.getElem_toArray, List.getElem_cons_zero, Act.put, List.setIfInBounds_toArray, List.set_cons_zero, List.set_cons_succ]
            refine wpAnyL_take (i := 1) (v := ?_) rfl (by kernel_rfl) (by kernel_rfl) (by kernel_rfl) (by kernel_rfl) (fun _ _ _ h => h) hS (Or.inl ⟨by rfl, ?_⟩) ?_
            rotate_left 1
            · intro w9 hw9
              have k0 := hw9
              go_simp
              try with_reducible rfl
            simp only [List.getElem_toArray, List.getElem_cons_zero, List.getElem_cons_succ, Act.put, List.setIfInBounds_toArray, List.set_cons_zero, List.set_cons_succ]
            refine wpAnyL_take (i := 2) (v := ?_) rfl (by kernel_rfl) (by kernel_rfl) (by kernel_rfl) (by kernel_rfl) (fun _ _ _ h => h) hS (Or.inl ⟨by rfl, ?_⟩) ?_
            rotate_left 1
            · intro w9 hw9
              have k0 := hw9
              go_simp
              try with_reducible rfl
            simp only [List.getElem_toArray, List.getElem_cons_zero, List.getElem_cons_succ, Act.put, List.setIfInBounds_toArray, List.set_cons_zero, List.set_cons_succ]
            refine wpAnyL_take (i := 3) (v := ?_) rfl (by kernel_rfl) (by kernel_rfl) (by kernel_rfl) (by kernel_rfl) (fun _ _ _ h => h) hS (Or.inl ⟨by rfl, ?_⟩) ?_
            rotate_left 1
            · intro w9 hw9
              have k0 := hw9
              go_simp
              try with_reducible rfl
            simp only [List.getElem_toArray, List.getElem_cons_zero, List.getElem_cons_succ, Act.put, List.setIfInBounds_toArray, List.set_cons_zero, List.set_cons_succ]
            refine wpAnyL_take (i := 5) (v := ?_) rfl (by kernel_rfl) (by kernel_rfl) (by kernel_rfl) (by kernel_rfl) (fun _ _ _ h => h) hS (Or.inl ⟨by rfl, ?_⟩) ?_
            rotate_left 1
            · intro w9 hw9
              have k0 := hw9
              go_simp
              try with_reducible rfl
            simp only [List.getElem_toArray, List.getElem_cons_zero, List.getElem_cons_succ, Act.put, List.setIfInBounds_toArray, List.set_cons_zero, List.set_cons_succ]
            refine wpAnyL_take (i := 6) (v := ?_) rfl (by kernel_rfl) (by kernel_rfl) (by kernel_rfl) (by kernel_rfl) (fun _ _ _ h => h) hS (Or.inl ⟨by rfl, ?_⟩) ?_
            rotate_left 1
            · intro w9 hw9
              have k0 := hw9
              go_simp
              try with_reducible rfl
            simp only [List.getElem_toArray, List.getElem_cons_zero, List.getElem_cons_succ, Act.put, List.setIfInBounds_toArray, List.set_cons_zero, List.set_cons_succ]
            refine wpAnyL_take (i := 7) (v := ?_) rfl (by kernel_rfl) (by kernel_rfl) (by kernel_rfl) (by kernel_rfl) (fun _ _ _ h => h) hS (Or.inl ⟨by rfl, ?_⟩) ?_
            rotate_left 1
            · intro w9 hw9
              have k0 := hw9
              go_simp
              try with_reducible rfl
            simp only [List.getElem_toArray, List.getElem_cons_zero, List.getElem_cons_succ, Act.put, List.setIfInBounds_toArray, List.set_cons_zero, List.set_cons_succ]
            refine wpAnyL_take (i := 9) (v := ?_) rfl (by kernel_rfl) (by kernel_rfl) (by kernel_rfl) (by kernel_rfl) (fun _ _ _ h => h) hS (Or.inl ⟨by rfl, ?_⟩) ?_
            rotate_left 1
            · intro w9 hw9
              have k0 := hw9
              go_simp
              try with_reducible rfl
            simp only [List.getElem_toArray, List.getElem_cons_zero, List.getElem_cons_succ, Act.put, List.setIfInBounds_toArray, List.set_cons_zero, List.set_cons_succ]
            refine wpAnyL_three (i := 4) (j := 8) (l := 11) (by kernel_rfl) rfl rfl rfl (fun K hK => ?_) (fun K hK => ?_) (fun K hK => ?_)
            · skip
              go_simp
              refine hK.out _ _ (fun _ => HS.out _ (by (repeat first | with_reducible assumption | with_reducible exact Below.refl _ _ | (with_reducible refine Below.alloc ?_ ?side _; case side => (first | omega | (with_reducible exact Below.size (by assumption)) | (simp; done) | (simp; omega))) | (with_reducible refine Below.setCell ?_ ?side _; case side => (first | omega | (with_reducible exact Below.size (by assumption)) | (simp; done) | (simp; omega))) | with_reducible refine Below.drew ?_ | with_reducible refine below_drewN ?_ _ | (with_reducible refine below_step (by assumption) ?side ?_; case side => (first | omega | (with_reducible exact Below.size (by assumption)) | (simp; done) | (simp; omega)))))) (fun hS' => ?_)
              clear hK K
              replace hS := hS' (by decide)
              clear hS'
              refine wpAnyL_two (i := 8) (j := 11) (by kernel_rfl) rfl rfl (fun K hK => ?_) (fun K hK => ?_)
              · skip
                go_simp
                refine hK.out _ _ (fun _ => HS.out _ (by (repeat first | with_reducible assumption | with_reducible exact Below.refl _ _ | (with_reducible refine Below.alloc ?_ ?side _; case side => (first | omega | (with_reducible exact Below.size (by assumption)) | (simp; done) | (simp; omega))) | (with_reducible refine Below.setCell ?_ ?side _; case side => (first | omega | (with_reducible exact Below.size (by assumption)) | (simp; done) | (simp; omega))) | with_reducible refine Below.drew ?_ | with_reducible refine below_drewN ?_ _ | (with_reducible refine below_step (by assumption) ?side ?_; case side => (first | omega | (with_reducible exact Below.size (by assumption)) | (simp; done) | (simp; omega)))))) (fun hS' => ?_)
                clear hK K
                replace hS := hS' (by decide)
                clear hS'
                refine wpAnyL_take (i := 10) (v := ?_) rfl (by kernel_rfl) (by kernel_rfl) (by kernel_rfl) (by kernel_rfl) (fun _ _ _ h => h) hS (Or.inl ⟨by rfl, ?_⟩) ?_
                rotate_left 1
                · intro w9 hw9
                  have k0 := hw9
                  go_simp
                  try with_reducible rfl
                simp only [List.getElem_toArray, List.getElem_cons_zero, List.getElem_cons_succ, Act.put, List.setIfInBounds_toArray, List.set_cons_zero, List.set_cons_succ]
                refine wpAnyL_one (i := 11) (by kernel_rfl) rfl (fun K hK => ?_)
                go_simp
                refine hK.out _ _ (fun _ => HS.out _ (by (repeat first | with_reducible assumption | with_reducible exact Below.refl _ _ | (with_reducible refine Below.alloc ?_ ?side _; case side => (first | omega | (with_reducible exact Below.size (by assumption)) | (simp; done) | (simp; omega))) | (with_reducible refine Below.setCell ?_ ?side _; case side => (first | omega | (with_reducible exact Below.size (by assumption)) | (simp; done) | (simp; omega))) | with_reducible refine Below.drew ?_ | with_reducible refine below_drewN ?_ _ | (with_reducible refine below_step (by assumption) ?side ?_; case side => (first | omega | (with_reducible exact Below.size (by assumption)) | (simp; done) | (simp; omega)))))) (fun hS' => ?_)
                clear hK K
                replace hS := hS' (by decide)
                clear hS'
                obtain ⟨Z, hZ⟩ : ∃ Z, ((wp.alloc (.cells (mkC nb) 3)).alloc (.cells (mkC nb) 3)).alloc (.cells #[.slice none 0 0, .int .i64 0, .slice none 0 0, .int .i64 0, .slice none 0 0, .slice none 0 0, .int .i64 0] 68) = Z := ⟨_, rfl⟩
                rw [hZ] at hS ⊢
                obtain ⟨mk, mr, mc, mb⟩ := made3 (by omega) hZ
                have kz := mk.cell
                have kf0 := mk.frozen
                unfold zC at kz
                clear hZ
                refine wpAnyL_one (i := 12) (by kernel_rfl) rfl (fun K hK => ?_)
                go_simp
                refine hK.out _ _ (fun h => absurd rfl h) (fun _ => ?_)
                refine wpAnyL_done (by kernel_rfl) ?_ _
                clear hK K hS
                go_wp2_with fail
                go_meet
                have hci := cut_init (Ab := Ab) (Ap := Ap) (cb := cb) (np := np) (cp := cp) (lo := lo) (kf := kf) (wrg := wrg) mk mr mc mb (by omega) (by omega) rfl
                exact ⟨_, _, _, rfl, Lib.hid hci.1.drew, Lib.hid hci.2.drew⟩
              · skip
                go_simp
                refine hK.out _ _ (fun _ => HS.out _ (by (repeat first | with_reducible assumption | with_reducible exact Below.refl _ _ | (with_reducible refine Below.alloc ?_ ?side _; case side => (first | omega | (with_reducible exact Below.size (by assumption)) | (simp; done) | (simp; omega))) | (with_reducible refine Below.setCell ?_ ?side _; case side => (first | omega | (with_reducible exact Below.size (by assumption)) | (simp; done) | (simp; omega))) | with_reducible refine Below.drew ?_ | with_reducible refine below_drewN ?_ _ | (with_reducible refine below_step (by assumption) ?side ?_; case side => (first | omega | (with_reducible exact Below.size (by assumption)) | (simp; done) | (simp; omega)))))) (fun hS' => ?_)
                clear hK K
                replace hS := hS' (by decide)
                clear hS'
                refine wpAnyL_one (i := 8) (by kernel_rfl) rfl (fun K hK => ?_)
                go_simp
                refine hK.out _ _ (fun _ => HS.out _ (by (repeat first | with_reducible assumption | with_reducible exact Below.refl _ _ | (with_reducible refine Below.alloc ?_ ?side _; case side => (first | omega | (with_reducible exact Below.size (by assumption)) | (simp; done) | (simp; omega))) | (with_reducible refine Below.setCell ?_ ?side _; case side => (first | omega | (with_reducible exact Below.size (by assumption)) | (simp; done) | (simp; omega))) | with_reducible refine Below.drew ?_ | with_reducible refine below_drewN ?_ _ | (with_reducible refine below_step (by assumption) ?side ?_; case side => (first | omega | (with_reducible exact Below.size (by assumption)) | (simp; done) | (simp; omega)))))) (fun hS' => ?_)
                clear hK K
                replace hS := hS' (by decide)
                clear hS'
                refine wpAnyL_take (i := 10) (v := ?_) rfl (by kernel_rfl) (by kernel_rfl) (by kernel_rfl) (by kernel_rfl) (fun _ _ _ h => h) hS (Or.inl ⟨by rfl, ?_⟩) ?_
                rotate_left 1
                · intro w9 hw9
                  have k0 := hw9
                  go_simp
                  try with_reducible rfl
                simp only [List.getElem_toArray, List.getElem_cons_zero, List.getElem_cons_succ, Act.put, List.setIfInBounds_toArray, List.set_cons_zero, List.set_cons_succ]
                obtain ⟨Z, hZ⟩ : ∃ Z, ((wp.alloc (.cells (mkC nb) 3)).alloc (.cells #[.slice none 0 0, .int .i64 0, .slice none 0 0, .int .i64 0, .slice none 0 0, .slice none 0 0, .int .i64 0] 68)).alloc (.cells (mkC nb) 3) = Z := ⟨_, rfl⟩
                rw [hZ] at hS ⊢
                obtain ⟨mk, mr, mc, mb⟩ := made2 (by omega) hZ
                have kz := mk.cell
                have kf0 := mk.frozen
                unfold zC at kz
                clear hZ
                refine wpAnyL_one (i := 12) (by kernel_rfl) rfl (fun K hK => ?_)
                go_simp
                refine hK.out _ _ (fun h => absurd rfl h) (fun _ => ?_)
                refine wpAnyL_done (by kernel_rfl) ?_ _
                clear hK K hS
                go_wp2_with fail
                go_meet
                have hci := cut_init (Ab := Ab) (Ap := Ap) (cb := cb) (np := np) (cp := cp) (lo := lo) (kf := kf) (wrg := wrg) mk mr mc mb (by omega) (by omega) rfl
                exact ⟨_, _, _, rfl, Lib.hid hci.1.drew, Lib.hid hci.2.drew⟩
            · skip
              go_simp
              refine hK.out _ _ (fun _ => HS.out _ (by (repeat first | with_reducible assumption | with_reducible exact Below.refl _ _ | (with_reducible refine Below.alloc ?_ ?side _; case side => (first | omega | (with_reducible exact Below.size (by assumption)) | (simp; done) | (simp; omega))) | (with_reducible refine Below.setCell ?_ ?side _; case side => (first | omega | (with_reducible exact Below.size (by assumption)) | (simp; done) | (simp; omega))) | with_reducible refine Below.drew ?_ | with_reducible refine below_drewN ?_ _ | (with_reducible refine below_step (by assumption) ?side ?_; case side => (first | omega | (with_reducible exact Below.size (by assumption)) | (simp; done) | (simp; omega)))))) (fun hS' => ?_)
              clear hK K
              replace hS := hS' (by decide)
              clear hS'
              refine wpAnyL_two (i := 4) (j := 11) (by kernel_rfl) rfl rfl (fun K hK => ?_) (fun K hK => ?_)
              · skip
                go_simp
                refine hK.out _ _ (fun _ => HS.out _ (by (repeat first | with_reducible assumption | with_reducible exact Below.refl _ _ | (with_reducible refine Below.alloc ?_ ?side _; case side => (first | omega | (with_reducible exact Below.size (by assumption)) | (simp; done) | (simp; omega))) | (with_reducible refine Below.setCell ?_ ?side _; case side => (first | omega | (with_reducible exact Below.size (by assumption)) | (simp; done) | (simp; omega))) | with_reducible refine Below.drew ?_ | with_reducible refine below_drewN ?_ _ | (with_reducible refine below_step (by assumption) ?side ?_; case side => (first | omega | (with_reducible exact Below.size (by assumption)) | (simp; done) | (simp; omega)))))) (fun hS' => ?_)
                clear hK K
                replace hS := hS' (by decide)
                clear hS'
                refine wpAnyL_take (i := 10) (v := ?_) rfl (by kernel_rfl) (by kernel_rfl) (by kernel_rfl) (by kernel_rfl) (fun _ _ _ h => h) hS (Or.inl ⟨by rfl, ?_⟩) ?_
                rotate_left 1
                · intro w9 hw9
                  have k0 := hw9
                  go_simp
                  try with_reducible rfl
                simp only [List.getElem_toArray, List.getElem_cons_zero, List.getElem_cons_succ, Act.put, List.setIfInBounds_toArray, List.set_cons_zero, List.set_cons_succ]
                refine wpAnyL_one (i := 11) (by kernel_rfl) rfl (fun K hK => ?_)
                go_simp
                refine hK.out _ _ (fun _ => HS.out _ (by (repeat first | with_reducible assumption | with_reducible exact Below.refl _ _ | (with_reducible refine Below.alloc ?_ ?side _; case side => (first | omega | (with_reducible exact Below.size (by assumption)) | (simp; done) | (simp; omega))) | (with_reducible refine Below.setCell ?_ ?side _; case side => (first | omega | (with_reducible exact Below.size (by assumption)) | (simp; done) | (simp; omega))) | with_reducible refine Below.drew ?_ | with_reducible refine below_drewN ?_ _ | (with_reducible refine below_step (by assumption) ?side ?_; case side => (first | omega | (with_reducible exact Below.size (by assumption)) | (simp; done) | (simp; omega)))))) (fun hS' => ?_)
                clear hK K
                replace hS := hS' (by decide)
                clear hS'
                obtain ⟨Z, hZ⟩ : ∃ Z, ((wp.alloc (.cells (mkC nb) 3)).alloc (.cells (mkC nb) 3)).alloc (.cells #[.slice none 0 0, .int .i64 0, .slice none 0 0, .int .i64 0, .slice none 0 0, .slice none 0 0, .int .i64 0] 68) = Z := ⟨_, rfl⟩
                rw [hZ] at hS ⊢
                obtain ⟨mk, mr, mc, mb⟩ := made3 (by omega) hZ
                have kz := mk.cell
                have kf0 := mk.frozen
                unfold zC at kz
                clear hZ
                refine wpAnyL_one (i := 12) (by kernel_rfl) rfl (fun K hK => ?_)
                go_simp
                refine hK.out _ _ (fun h => absurd rfl h) (fun _ => ?_)
                refine wpAnyL_done (by kernel_rfl) ?_ _
                clear hK K hS
                go_wp2_with fail
                go_meet
                have hci := cut_init (Ab := Ab) (Ap := Ap) (cb := cb) (np := np) (cp := cp) (lo := lo) (kf := kf) (wrg := wrg) mk mc mr mb (by omega) (by omega) rfl
                exact ⟨_, _, _, rfl, Lib.hid hci.1.drew, Lib.hid hci.2.drew⟩
              · skip
                go_simp
                refine hK.out _ _ (fun _ => HS.out _ (by (repeat first | with_reducible assumption | with_reducible exact Below.refl _ _ | (with_reducible refine Below.alloc ?_ ?side _; case side => (first | omega | (with_reducible exact Below.size (by assumption)) | (simp; done) | (simp; omega))) | (with_reducible refine Below.setCell ?_ ?side _; case side => (first | omega | (with_reducible exact Below.size (by assumption)) | (simp; done) | (simp; omega))) | with_reducible refine Below.drew ?_ | with_reducible refine below_drewN ?_ _ | (with_reducible refine below_step (by assumption) ?side ?_; case side => (first | omega | (with_reducible exact Below.size (by assumption)) | (simp; done) | (simp; omega)))))) (fun hS' => ?_)
                clear hK K
                replace hS := hS' (by decide)
                clear hS'
                refine wpAnyL_one (i := 4) (by kernel_rfl) rfl (fun K hK => ?_)
                go_simp
                refine hK.out _ _ (fun _ => HS.out _ (by (repeat first | with_reducible assumption | with_reducible exact Below.refl _ _ | (with_reducible refine Below.alloc ?_ ?side _; case side => (first | omega | (with_reducible exact Below.size (by assumption)) | (simp; done) | (simp; omega))) | (with_reducible refine Below.setCell ?_ ?side _; case side => (first | omega | (with_reducible exact Below.size (by assumption)) | (simp; done) | (simp; omega))) | with_reducible refine Below.drew ?_ | with_reducible refine below_drewN ?_ _ | (with_reducible refine below_step (by assumption) ?side ?_; case side => (first | omega | (with_reducible exact Below.size (by assumption)) | (simp; done) | (simp; omega)))))) (fun hS' => ?_)
                clear hK K
                replace hS := hS' (by decide)
                clear hS'
                refine wpAnyL_take (i := 10) (v := ?_) rfl (by kernel_rfl) (by kernel_rfl) (by kernel_rfl) (by kernel_rfl) (fun _ _ _ h => h) hS (Or.inl ⟨by rfl, ?_⟩) ?_
                rotate_left 1
                · intro w9 hw9
                  have k0 := hw9
                  go_simp
                  try with_reducible rfl
                simp only [List.getElem_toArray, List.getElem_cons_zero, List.getElem_cons_succ, Act.put, List.setIfInBounds_toArray, List.set_cons_zero, List.set_cons_succ]
                obtain ⟨Z, hZ⟩ : ∃ Z, ((wp.alloc (.cells (mkC nb) 3)).alloc (.cells #[.slice none 0 0, .int .i64 0, .slice none 0 0, .int .i64 0, .slice none 0 0, .slice none 0 0, .int .i64 0] 68)).alloc (.cells (mkC nb) 3) = Z := ⟨_, rfl⟩
                rw [hZ] at hS ⊢
                obtain ⟨mk, mr, mc, mb⟩ := made2 (by omega) hZ
                have kz := mk.cell
                have kf0 := mk.frozen
                unfold zC at kz
                clear hZ
                refine wpAnyL_one (i := 12) (by kernel_rfl) rfl (fun K hK => ?_)
                go_simp
                refine hK.out _ _ (fun h => absurd rfl h) (fun _ => ?_)
                refine wpAnyL_done (by kernel_rfl) ?_ _
                clear hK K hS
                go_wp2_with fail
                go_meet
                have hci := cut_init (Ab := Ab) (Ap := Ap) (cb := cb) (np := np) (cp := cp) (lo := lo) (kf := kf) (wrg := wrg) mk mc mr mb (by omega) (by omega) rfl
                exact ⟨_, _, _, rfl, Lib.hid hci.1.drew, Lib.hid hci.2.drew⟩
            · skip
              go_simp
              refine hK.out _ _ (fun _ => HS.out _ (by (repeat first | with_reducible assumption | with_reducible exact Below.refl _ _ | (with_reducible refine Below.alloc ?_ ?side _; case side => (first | omega | (with_reducible exact Below.size (by assumption)) | (simp; done) | (simp; omega))) | (with_reducible refine Below.setCell ?_ ?side _; case side => (first | omega | (with_reducible exact Below.size (by assumption)) | (simp; done) | (simp; omega))) | with_reducible refine Below.drew ?_ | with_reducible refine below_drewN ?_ _ | (with_reducible refine below_step (by assumption) ?side ?_; case side => (first | omega | (with_reducible exact Below.size (by assumption)) | (simp; done) | (simp; omega)))))) (fun hS' => ?_)
              clear hK K
              replace hS := hS' (by decide)
              clear hS'
              refine wpAnyL_two (i := 4) (j := 8) (by kernel_rfl) rfl rfl (fun K hK => ?_) (fun K hK => ?_)
              · skip
                go_simp
                refine hK.out _ _ (fun _ => HS.out _ (by (repeat first | with_reducible assumption | with_reducible exact Below.refl _ _ | (with_reducible refine Below.alloc ?_ ?side _; case side => (first | omega | (with_reducible exact Below.size (by assumption)) | (simp; done) | (simp; omega))) | (with_reducible refine Below.setCell ?_ ?side _; case side => (first | omega | (with_reducible exact Below.size (by assumption)) | (simp; done) | (simp; omega))) | with_reducible refine Below.drew ?_ | with_reducible refine below_drewN ?_ _ | (with_reducible refine below_step (by assumption) ?side ?_; case side => (first | omega | (with_reducible exact Below.size (by assumption)) | (simp; done) | (simp; omega)))))) (fun hS' => ?_)
                clear hK K
                replace hS := hS' (by decide)
                clear hS'
                refine wpAnyL_one (i := 8) (by kernel_rfl) rfl (fun K hK => ?_)
                go_simp
                refine hK.out _ _ (fun _ => HS.out _ (by (repeat first | with_reducible assumption | with_reducible exact Below.refl _ _ | (with_reducible refine Below.alloc ?_ ?side _; case side => (first | omega | (with_reducible exact Below.size (by assumption)) | (simp; done) | (simp; omega))) | (with_reducible refine Below.setCell ?_ ?side _; case side => (first | omega | (with_reducible exact Below.size (by assumption)) | (simp; done) | (simp; omega))) | with_reducible refine Below.drew ?_ | with_reducible refine below_drewN ?_ _ | (with_reducible refine below_step (by assumption) ?side ?_; case side => (first | omega | (with_reducible exact Below.size (by assumption)) | (simp; done) | (simp; omega)))))) (fun hS' => ?_)
                clear hK K
                replace hS := hS' (by decide)
                clear hS'
                refine wpAnyL_take (i := 10) (v := ?_) rfl (by kernel_rfl) (by kernel_rfl) (by kernel_rfl) (by kernel_rfl) (fun _ _ _ h => h) hS (Or.inl ⟨by rfl, ?_⟩) ?_
                rotate_left 1
                · intro w9 hw9
                  have k0 := hw9
                  go_simp
                  try with_reducible rfl
                simp only [List.getElem_toArray, List.getElem_cons_zero, List.getElem_cons_succ, Act.put, List.setIfInBounds_toArray, List.set_cons_zero, List.set_cons_succ]
                obtain ⟨Z, hZ⟩ : ∃ Z, ((wp.alloc (.cells #[.slice none 0 0, .int .i64 0, .slice none 0 0, .int .i64 0, .slice none 0 0, .slice none 0 0, .int .i64 0] 68)).alloc (.cells (mkC nb) 3)).alloc (.cells (mkC nb) 3) = Z := ⟨_, rfl⟩
                rw [hZ] at hS ⊢
                obtain ⟨mk, mr, mc, mb⟩ := made1 (by omega) hZ
                have kz := mk.cell
                have kf0 := mk.frozen
                unfold zC at kz
                clear hZ
                refine wpAnyL_one (i := 12) (by kernel_rfl) rfl (fun K hK => ?_)
                go_simp
                refine hK.out _ _ (fun h => absurd rfl h) (fun _ => ?_)
                refine wpAnyL_done (by kernel_rfl) ?_ _
                clear hK K hS
                go_wp2_with fail
                go_meet
                have hci := cut_init (Ab := Ab) (Ap := Ap) (cb := cb) (np := np) (cp := cp) (lo := lo) (kf := kf) (wrg := wrg) mk mr mc mb (by omega) (by omega) rfl
                exact ⟨_, _, _, rfl, Lib.hid hci.1.drew, Lib.hid hci.2.drew⟩
              · skip
                go_simp
                refine hK.out _ _ (fun _ => HS.out _ (by (repeat first | with_reducible assumption | with_reducible exact Below.refl _ _ | (with_reducible refine Below.alloc ?_ ?side _; case side => (first | omega | (with_reducible exact Below.size (by assumption)) | (simp; done) | (simp; omega))) | (with_reducible refine Below.setCell ?_ ?side _; case side => (first | omega | (with_reducible exact Below.size (by assumption)) | (simp; done) | (simp; omega))) | with_reducible refine Below.drew ?_ | with_reducible refine below_drewN ?_ _ | (with_reducible refine below_step (by assumption) ?side ?_; case side => (first | omega | (with_reducible exact Below.size (by assumption)) | (simp; done) | (simp; omega)))))) (fun hS' => ?_)
                clear hK K
                replace hS := hS' (by decide)
                clear hS'
                refine wpAnyL_one (i := 4) (by kernel_rfl) rfl (fun K hK => ?_)
                go_simp
                refine hK.out _ _ (fun _ => HS.out _ (by (repeat first | with_reducible assumption | with_reducible exact Below.refl _ _ | (with_reducible refine Below.alloc ?_ ?side _; case side => (first | omega | (with_reducible exact Below.size (by assumption)) | (simp; done) | (simp; omega))) | (with_reducible refine Below.setCell ?_ ?side _; case side => (first | omega | (with_reducible exact Below.size (by assumption)) | (simp; done) | (simp; omega))) | with_reducible refine Below.drew ?_ | with_reducible refine below_drewN ?_ _ | (with_reducible refine below_step (by assumption) ?side ?_; case side => (first | omega | (with_reducible exact Below.size (by assumption)) | (simp; done) | (simp; omega)))))) (fun hS' => ?_)
                clear hK K
                replace hS := hS' (by decide)
                clear hS'
                refine wpAnyL_take (i := 10) (v := ?_) rfl (by kernel_rfl) (by kernel_rfl) (by kernel_rfl) (by kernel_rfl) (fun _ _ _ h => h) hS (Or.inl ⟨by rfl, ?_⟩) ?_
                rotate_left 1
                · intro w9 hw9
                  have k0 := hw9
                  go_simp
                  try with_reducible rfl
                simp only [List.getElem_toArray, List.getElem_cons_zero, List.getElem_cons_succ, Act.put, List.setIfInBounds_toArray, List.set_cons_zero, List.set_cons_succ]
                obtain ⟨Z, hZ⟩ : ∃ Z, ((wp.alloc (.cells #[.slice none 0 0, .int .i64 0, .slice none 0 0, .int .i64 0, .slice none 0 0, .slice none 0 0, .int .i64 0] 68)).alloc (.cells (mkC nb) 3)).alloc (.cells (mkC nb) 3) = Z := ⟨_, rfl⟩
                rw [hZ] at hS ⊢
                obtain ⟨mk, mr, mc, mb⟩ := made1 (by omega) hZ
                have kz := mk.cell
                have kf0 := mk.frozen
                unfold zC at kz
                clear hZ
                refine wpAnyL_one (i := 12) (by kernel_rfl) rfl (fun K hK => ?_)
                go_simp
                refine hK.out _ _ (fun h => absurd rfl h) (fun _ => ?_)
                refine wpAnyL_done (by kernel_rfl) ?_ _
                clear hK K hS
                go_wp2_with fail
                go_meet
                have hci := cut_init (Ab := Ab) (Ap := Ap) (cb := cb) (np := np) (cp := cp) (lo := lo) (kf := kf) (wrg := wrg) mk mc mr mb (by omega) (by omega) rfl
                exact ⟨_, _, _, rfl, Lib.hid hci.1.drew, Lib.hid hci.2.drew⟩
          case rest =>
            obtain ⟨go, gr, gc, rfl, HC, HB⟩ := hcut
            clear hmk HS hS
            obtain ⟨wq, rfl⟩ : ∃ wq : World, wq = wc := ⟨_, rfl⟩
            have zq := HB.out.size
            obtain ⟨g0, g1, g2⟩ := HC.out.ges
            obtain ⟨t0, t1, t2⟩ := HC.out.lts
            have ne := HC.out.ne
            have m0 : w.heap.size < wq.heap.size := by omega
            have cc := fun j => (HB.out.cell (p := ⟨w.heap.size, j, none⟩) (by show w.heap.size < _; omega)).trans (c0p.out j)
            go_upto_region 17 with (fail)
            clear cc
            go_loopw [62] (fun i (ws : World) => ∃ k : Nat, k ≤ nb ∧ i = .int .i64 k ∧ Hid (CutM wp.heap.size go gr gc nb nb nb Ab cb kf Ap np cp wrg (rsI bs nb k) (List.replicate nb 0) lo ws) ∧ Hid (Below wp.heap.size wp ws)) (fun i _ => nb - (intOf i).toNat)
            case atStart => exact ⟨0, by omega, rfl, Lib.hid (by rw [rsI_0]; exact HC.out), HB⟩
            case round =>
              obtain ⟨k, hk, rfl, HCk, HBk⟩ := hrel
              have zb := HBk.out.size
              have t0' := HCk.out.lts
              by_cases hkn : k < nb
              · have hqB : decide ((k : Int) < nb) = true := by simp; omega
                obtain ⟨bb, bo, hAbe, hbb, y0, y1⟩ := (HBp.out.later HBk.out).get hkn
                subst hAbe
                have ec := HCk.out.blk.cell
                have x1 := own_int_get HCk.out.o2 HCk.out.rl hkn
                have x2 := HCk.out.o2.frozenAt k
                have n0 : go < wr.heap.size := t0'.1
                have n1 : gr < wr.heap.size := t0'.2.1
                obtain ⟨lg, hlg⟩ : ∃ s, (brAt bs k).long = s := ⟨_, rfl⟩
                rw [hlg] at y1
                have HLG := Lib.hid hlg
                clear hlg
                go_upto_region 19 with (fail)
                go_name_world Y hY
                have BY : Below wr.heap.size wr Y := (al1 hY).1
                have q0 := (al1_0 hY).2.1
                have HCY := Lib.hid (HCk.out.later BY)
                have ey := HCY.out.blk.cell
                have x1 := own_int_get HCY.out.o2 HCY.out.rl hkn
                have x2 := HCY.out.o2.frozenAt k
                have HBY := Lib.hid (below_step BY (by omega) HBk.out)
                clear hY ec y0 y1
                go_upto_region 20 with (fail)
                go_wp2_with fail
                go_roundw
                case rel => exact ⟨k + 1, by omega, by go_num, Lib.hid (by have h := HCY.out.set2 hkn lg; rw [← HLG.out, rsI_succ hkn] at h; rw [← HLG.out]; exact h), Lib.hid (HBY.out.setCell (p := ⟨gr, k, none⟩) g1 _)⟩
                case measure => simp [intOf]; omega
              · obtain rfl : nb = k := by omega
                have hqB : decide (((nb : Nat) : Int) < nb) = false := by simp
                have ec := HCk.out.blk.cell
                have n0 : go < wr.heap.size := t0'.1
                have hcut := cut_c Ab Ap go gr gc nb nb nb cb np cp kf wrg bs ms ps wp OK.out.1 v4 ⟨HBp.out, HPp.out⟩ np [] lo wr (by simp) (by simp) (okB_nil OK.out.1 v4.1) HBk.out (by
                  obtain ⟨s1, s2⟩ := sw_nil (bs := bs) (ps := ps) (kf := kf)
                  rw [OK.out.1.bl] at s1 s2
                  rw [s1, s2]
                  exact HCk.out)
                rw [show wgB bs ps ([] : List Nat) = 0 by simp [wgB], show usL nb ([] : List Nat) = 0 by simp [usL]] at hcut
                simp only [List.length_nil, Int.ofNat_zero, Int.sub_zero] at hcut
                obtain ⟨bv, hbv⟩ : ∃ b, cutV bs ps kf wrg np [] lo = b := ⟨_, rfl⟩
                have hbn : bv ≤ nb := by rw [← hbv]; exact cutV_le (by rw [OK.out.1.bl]; exact Nat.le_refl _) hlon
                rw [hbv] at hcut E1
                replace hcut := Lib.hid hcut
                have cs := fun j => (HBk.out.cell (p := ⟨w.heap.size, j, none⟩) (by show w.heap.size < _; omega)).trans (c0p.out j)
                clear hbv
                go_upto_region 22 with (go_at_call 26; refine hcut.out.mono ?_; rintro e V ⟨rfl, hCV, hBV⟩)
                have hBB : Below wp.heap.size wr V := hBV.below ⟨g0, g1, g2⟩ (Below.refl _ _) zb
                have hBV2 : Below wp.heap.size wp V := HBk.out.trans hBB
                have zV := hBV2.size
                have hBw : Below w.heap.size w V := BBp.out.trans (hBV2.mono BBp.out.size)
                have HBw := Lib.hid hBw
                have LV1 := Lib.hid (L1p.out.below hBV2 (by omega))
                have LV2 := Lib.hid (L2p.out.below hBV2 (by omega))
                have cv := fun j => (hBV2.cell (p := ⟨w.heap.size, j, none⟩) (by show w.heap.size < _; omega)).trans (c0p.out j)
                have eV := hCV.blk.cell
                have c2 := LV2.out.cell
                have f2 := LV2.out.frozen
                have c1 := LV1.out.cell
                have f1 := LV1.out.frozen
                have nV0 : w.heap.size < V.heap.size := by omega
                have nV1 : w.heap.size + 1 < V.heap.size := by omega
                have nV2 : w.heap.size + 1 + 1 < V.heap.size := by omega
                have nV3 := hCV.blk.lt
                have hm1 : (0 : Int) ≤ kf * ((np : Int) - bv) ∨ True := Or.inr trivial
                have w1 : IntKind.i64.wrap ((np : Int) - bv) = (np : Int) - bv := IntWalk.i64_in _ (by omega)
                have w2 : IntKind.i64.wrap ((np : Int) - lo) = (np : Int) - lo := IntWalk.i64_in _ (by omega)
                have b1 := mul_small (a := kf) (b := (np : Int) - bv) (by omega) (by omega)
                have b2 := mul_small (a := kf) (b := (np : Int) - lo) (by omega) (by omega)
                have e1' := E1.out
                have e2' := E2.out
                have w3 : IntKind.i64.wrap (((np : Int) - bv) * kf) = cl := by rw [Int.mul_comm, e1']; exact IntWalk.i64_in _ (by omega)
                have w4 : IntKind.i64.wrap (((np : Int) - lo) * kf) = ch := by rw [Int.mul_comm, e2']; exact IntWalk.i64_in _ (by omega)
                have w5 : IntKind.i64.wrap (LV - ch) = rl := by rw [E3.out]; exact IntWalk.i64_in _ (by omega)
                have w6 : IntKind.i64.wrap (LV - cl) = rh := by rw [E4.out]; exact IntWalk.i64_in _ (by omega)
                clear e1' e2' hm1 b1 b2 hBV hBB hBV2 hCV hBw ec hcut cs
                go_upto_region 23 with (fail)
                go_name_world Z hZ
                have z1 := Lib.hid (show Blk Z (w.heap.size + 1 + 1) 29 #[.int .i64 cl, .int .i64 ch] by
                  rw [← hZ]
                  have h := (LV2.out.set_ 0 (.int .i64 cl)).set_ 1 (.int .i64 ch)
                  simpa using h)
                have z0 := Lib.hid (show Blk Z (w.heap.size + 1) 29 #[.int .i64 0, .int .i64 0] by
                  rw [← hZ]
                  exact (LV1.out.far (p := ⟨w.heap.size + 1 + 1, 0, none⟩) (by show w.heap.size + 1 ≠ w.heap.size + 1 + 1; omega) _).far (p := ⟨w.heap.size + 1 + 1, 1, none⟩) (by show w.heap.size + 1 ≠ w.heap.size + 1 + 1; omega) _)
                have bZ := Lib.hid (show Below w.heap.size w Z by rw [← hZ]; exact (HBw.out.setCell (p := ⟨w.heap.size + 1 + 1, 0, none⟩) (by show w.heap.size ≤ w.heap.size + 1 + 1; omega) _).setCell (p := ⟨w.heap.size + 1 + 1, 1, none⟩) (by show w.heap.size ≤ w.heap.size + 1 + 1; omega) _)
                have k2 := z1.out.cell
                have k1 := z0.out.cell
                have g2' := z1.out.frozen
                have g1' := z0.out.frozen
                have nZ1 := z0.out.lt
                have nZ2 := z1.out.lt
                obtain ⟨o1, o2, o3⟩ := spans4 z0.out z1.out (by omega) (.int .i64 rl) (.int .i64 rh) (.int .i64 cl) (.int .i64 ch)
                have d1 := o1.cell 0
                have d2 := o1.cell 1
                have d3 := o2.cell 0
                have d4 := o2.cell 1
                simp at d1 d2 d3 d4
                have HB9 := Lib.hid (o3.below (n := w.heap.size) ⟨by omega, by omega, by omega⟩ bZ.out bZ.out.size)
                have HD := Lib.hid (And.intro d1 (And.intro d2 (And.intro d3 d4)))
                clear hZ d1 d2 d3 d4 o1 o2 o3 c1 c2 f1 f2 cv eV nV0 nV1 nV2 nV3
                go_wp2_with fail
                go_region
                obtain ⟨d1, d2, d3, d4⟩ := HD.out
                go_wp2_with fail
                exact bodyPost_ret (v := .tuple #[.agg #[.int .i64 rl, .int .i64 rh], .agg #[.int .i64 cl, .int .i64 ch], .int .i64 0]) (by simp [results, Try.results8, go_sem, d1, d2, d3, d4]) rfl ⟨rfl, HB9.out.drew⟩
end

end Go.Proofs.Ytdhlnlmhdacblaa
