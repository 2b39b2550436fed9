/- inside of the statements (layer 4): all that can be so of a pull can be so of another one. -/
import Derived.Test.YtjlibgledkdfiaaTw4
import Derived.Shelf.Abstract
import Derived.Laws.EntriesVeiled
import Derived.Handy
import Derived.Deep.DrawnRows
import Derived.Deep.DeepCutAuto
namespace Go.Proofs.Ytjlibgledkdfiaa
open Go.RowKit
open Go.Sort (grow)
set_option linter.unusedVariables false

/-- each truth of a is one of b -/
def Sub4 (a b : P4) : Prop := ∀ u x y, Tr4 a u x y → Tr4 b u x y
section
variable {a b : P4} {nr nd md : Nat}
theorem ol4_ck {p : P4} (h : ck4 p = true) : ol4 p true = tr4 p := by unfold ol4; rw [h]; rfl
theorem op4_or {p : P4} (h : ck4 p = true) : op4 p true = 0 ∨ (op4 p true = 3 ∧ tr4 p = []) := by
  unfold op4
  rw [h]
  cases e : tr4 p with
  | nil => exact .inr ⟨rfl, rfl⟩
  | cons x l => exact .inl rfl
theorem sub_op (hs : Sub4 a b) (ha : ck4 a = true) (hb : ck4 b = true) (h : op4 a true = 0) : op4 b true = 0 := by
  obtain ⟨u, x, y, ht⟩ := (op4_truth ha).1 h
  exact (op4_truth hb).2 ⟨u, x, y, hs _ _ _ ht⟩
theorem sub_mn (hs : Sub4 a b) (h1 : a.rods.length ≤ 4) (h2 : b.rods.length ≤ 4) : mn4 (tr4 a) (tr4 a).length ≤ mn4 (tr4 b) (tr4 b).length := by
  rw [mn4_trl h1, mn4_trl h2]
  exact nodup_le4 _ _ (trl4_nodup h1) fun t ht => mem_trl4.2 (hs _ _ _ (mem_trl4.1 ht))
theorem mn4_pos {p : P4} (h1 : p.rods.length ≤ 4) (h : op4 p true = 0) (hc : ck4 p = true) : 1 ≤ mn4 (tr4 p) (tr4 p).length := by
  rw [mn4_trl h1]
  obtain ⟨u, x, y, ht⟩ := (op4_truth hc).1 h
  have : (x, y, u) ∈ trl4 p := mem_trl4.2 ht
  exact List.length_pos_of_mem this
theorem sub_lg (hs : Sub4 a b) (h : b.ghi - b.glo ≤ 8) (wh : Int) : sub4 (lg4 a (tr4 a) wh) (lg4 b (tr4 b) wh) = true := by
  have hm : ∀ n ∈ lg4 a (tr4 a) wh, n ∈ lg4 b (tr4 b) wh := fun n hn => by
    obtain ⟨u, x, y, ht, e⟩ := mem_lg4.1 hn
    exact mem_lg4.2 ⟨u, x, y, hs _ _ _ ht, e⟩
  have := lg4_len (p := b) (l := tr4 b) (wh := wh) h
  exact sub4_true.2 ⟨nodup_le4 _ _ (pair_nodup4 lg4_pair) hm, by omega, hm⟩
theorem sub_rl (hs : Sub4 a b) (okb : Ok4 nr md b) {q : Nat} (hq : q < nr) : sub4 (rl4 (tr4 a) q) (rl4 (tr4 b) q) = true := by
  have hm : ∀ n ∈ rl4 (tr4 a) q, n ∈ rl4 (tr4 b) q := fun n hn => by
    obtain ⟨h0, u, x, y, ht, e⟩ := mem_rl4.1 hn
    exact mem_rl4.2 ⟨h0, u, x, y, hs _ _ _ ht, e⟩
  have := rl4_len okb hq
  exact sub4_true.2 ⟨nodup_le4 _ _ (pair_nodup4 rl4_pair) hm, by omega, hm⟩
theorem sub_en (hs : Sub4 a b) (h : tr4 a ≠ []) : (en4 (tr4 b) (tr4 b).length).lo ≤ (en4 (tr4 a) (tr4 a).length).lo ∧ (en4 (tr4 a) (tr4 a).length).hi ≤ (en4 (tr4 b) (tr4 b).length).hi := by
  obtain ⟨⟨u, x, y, ht, e⟩, ⟨u', x', y', ht', e'⟩⟩ := en4_hit h
  have h1 := en4_truth (hs _ _ _ ht)
  have h2 := en4_truth (hs _ _ _ ht')
  omega
end
set_option maxRecDepth 100000 in
set_option maxHeartbeats 6400000 in
theorem inside4_c (Ar : Option Addr) (nr cr : Nat) (Ad : Option Addr) (nd cd : Nat) (a : P4) (Br : Option Addr) (mr dr : Nat) (Bd : Option Addr) (md dd : Nat) (b : P4) (w : World) (HA : MemP Ar nr Ad nd a w) (HB : MemP Br mr Bd md b w) (hsub : ready4 a = true → ready4 b = true → Sub4 a b ∧ nr = mr) :
    Calls Try.prog 20 #[.agg #[.int .i64 a.ir, .int .i64 a.glo, .int .i64 a.ghi, .slice Ar nr cr, .slice Ad nd cd, .int .i64 a.wr], .agg #[.int .i64 b.ir, .int .i64 b.glo, .int .i64 b.ghi, .slice Br mr dr, .slice Bd md dd, .int .i64 b.wr]] w fun e w' => e = .returned (.bool true) ∧ Below w.heap.size w w' := by
  have HRA := fun V (hV : Below w.heap.size w V) => ready4_c Ar nr cr Ad nd cd a V (HA.later hV)
  have HRB := fun V (hV : Below w.heap.size w V) => ready4_c Br mr dr Bd md dd b V (HB.later hV)
  cases hra : ready4 a
  · rw [hra] at HRA
    replace HRA := Lib.hid HRA
    clear hra HA HB hsub HRB
    obtain ⟨ir, glo, ghi, wrg, rods, res⟩ := a
    obtain ⟨ir', glo', ghi', wrg', rods', res'⟩ := b
    simp only at HRA ⊢
    go_enter Try.func20, Try.ntmps20
    go_upto_region 1 with (fail)
    go_name_world X hX
    have BX : Below w.heap.size w X := (al2 hX).1
    have HPX : Hid (Blk X w.heap.size 27 #[.int .i64 ir, .int .i64 glo, .int .i64 ghi, .slice Ar nr cr, .slice Ad nd cd, .int .i64 wrg]) := by rw [← hX]; exact Lib.hid ((Blk.new w _ _).alloc _)
    have HQX : Hid (Blk X (w.heap.size + 1) 27 #[.int .i64 ir', .int .i64 glo', .int .i64 ghi', .slice Br mr dr, .slice Bd md dd, .int .i64 wrg']) := by
      rw [← hX]
      have := Blk.new (w.alloc (.cells #[.int .i64 ir, .int .i64 glo, .int .i64 ghi, .slice Ar nr cr, .slice Ad nd cd, .int .i64 wrg] 27)) 27 #[.int .i64 ir', .int .i64 glo', .int .i64 ghi', .slice Br mr dr, .slice Bd md dd, .int .i64 wrg']
      rw [World.size_alloc] at this
      exact Lib.hid this
    have qX := HPX.out.cell
    have lX := HPX.out.lt
    have pX := HQX.out.cell
    have gX := HQX.out.lt
    clear hX
    go_wp2_with (go_at_call 12; refine (HRA.out X BX).mono ?_; (rintro e w1 ⟨rfl, hb1⟩); (have B1 := BX.trans (hb1.mono BX.size)); clear hb1)
    go_ret
    exact ⟨rfl, B1⟩
  cases hrb : ready4 b
  · rw [hra] at HRA
    rw [hrb] at HRB
    replace HRA := Lib.hid HRA
    replace HRB := Lib.hid HRB
    clear hra hrb HA HB hsub
    obtain ⟨ir, glo, ghi, wrg, rods, res⟩ := a
    obtain ⟨ir', glo', ghi', wrg', rods', res'⟩ := b
    simp only at HRA HRB ⊢
    go_enter Try.func20, Try.ntmps20
    go_upto_region 1 with (fail)
    go_name_world X hX
    have BX : Below w.heap.size w X := (al2 hX).1
    have HPX : Hid (Blk X w.heap.size 27 #[.int .i64 ir, .int .i64 glo, .int .i64 ghi, .slice Ar nr cr, .slice Ad nd cd, .int .i64 wrg]) := by rw [← hX]; exact Lib.hid ((Blk.new w _ _).alloc _)
    have HQX : Hid (Blk X (w.heap.size + 1) 27 #[.int .i64 ir', .int .i64 glo', .int .i64 ghi', .slice Br mr dr, .slice Bd md dd, .int .i64 wrg']) := by
      rw [← hX]
      have := Blk.new (w.alloc (.cells #[.int .i64 ir, .int .i64 glo, .int .i64 ghi, .slice Ar nr cr, .slice Ad nd cd, .int .i64 wrg] 27)) 27 #[.int .i64 ir', .int .i64 glo', .int .i64 ghi', .slice Br mr dr, .slice Bd md dd, .int .i64 wrg']
      rw [World.size_alloc] at this
      exact Lib.hid this
    have qX := HPX.out.cell
    have lX := HPX.out.lt
    have pX := HQX.out.cell
    have gX := HQX.out.lt
    clear hX
    go_wp2_with (go_at_call 12; first | (with_reducible refine (HRA.out X BX).mono ?_; (rintro e w1 ⟨rfl, hb⟩); (have Bw1 := BX.trans (hb.mono BX.size)); (have HQw1 := Lib.hid (HQX.out.below hb HQX.out.lt)); (have pw1 := HQw1.out.cell); (have gw1 := HQw1.out.lt); clear hb qX lX pX gX) | (with_reducible refine (HRB.out w1 Bw1).mono ?_; (rintro e w2 ⟨rfl, hb⟩); (have Bw2 := Bw1.trans (hb.mono Bw1.size)); clear hb))
    go_ret
    exact ⟨rfl, Bw2⟩
  obtain ⟨hs, rfl⟩ := hsub hra hrb
  have rda := ready4_iff hra
  have rdb := ready4_iff hrb
  rw [hra] at HRA
  rw [hrb] at HRB
  have hr := HA.hr.1
  have hd := HA.hd.1
  have hr' := HB.hr.1
  have hd' := HB.hd.1
  have oka : Ok4 nr nd a := ok4_of rda.ck hr hd
  have okb : Ok4 nr md b := ok4_of rdb.ck hr' hd'
  have hnr4 := oka.nr4
  have hnr : nr ≤ 40 := by omega
  have hnd : nd ≤ 40 := by have := oka.nd8; omega
  have hmd : md ≤ 40 := by have := okb.nd8; omega
  have HNA := fun V (hV : Below w.heap.size w V) => many4_c Ar nr cr Ad nd cd a V hnr hnd (HA.later hV) rda.len
  have HNB := fun V (hV : Below w.heap.size w V) => many4_c Br nr dr Bd md dd b V hnr hmd (HB.later hV) rdb.len
  rw [ol4_ck rda.ck] at HNA
  rw [ol4_ck rdb.ck] at HNB
  have hmn := sub_mn hs (by rw [hr]; exact oka.nr4) (by rw [hr']; exact oka.nr4)
  rcases op4_or rda.ck with h0 | ⟨h3, hte⟩
  case inr =>
    have hz : mn4 (tr4 a) (tr4 a).length = 0 := by rw [hte]; rfl
    have hk : kn4 (op4 b true) = true := by rcases op4_or rdb.ck with h | ⟨h, -⟩ <;> rw [h] <;> rfl
    rw [h3, hz] at HNA
    obtain ⟨n, hn⟩ : ∃ n, mn4 (tr4 b) (tr4 b).length = n := ⟨_, rfl⟩
    obtain ⟨z, hzz⟩ : ∃ z, op4 b true = z := ⟨_, rfl⟩
    rw [hn, hzz] at HNB
    rw [hzz] at hk
    have HK1 := Lib.hid (fun V => isKnown4_c 3 V)
    rw [show kn4 3 = true from rfl] at HK1
    have HK2 := fun V => isKnown4_c z V
    rw [hk] at HK2
    replace HK2 := Lib.hid HK2
    have tB : decide ((n : Int) < 0) = false := decide_eq_false (by omega)
    have TB := Lib.hid tB
    replace HNA := Lib.hid HNA
    replace HNB := Lib.hid HNB
    replace HRA := Lib.hid HRA
    replace HRB := Lib.hid HRB
    clear hra hrb HA HB hs rda rdb hr hd hr' hd' oka okb hmn h3 hte hz hk hn hzz tB
    obtain ⟨ir, glo, ghi, wrg, rods, res⟩ := a
    obtain ⟨ir', glo', ghi', wrg', rods', res'⟩ := b
    simp only at HRA HRB HNA HNB ⊢
    go_enter Try.func20, Try.ntmps20
    go_upto_region 1 with (fail)
    go_name_world X hX
    have BX : Below w.heap.size w X := (al2 hX).1
    have HPX : Hid (Blk X w.heap.size 27 #[.int .i64 ir, .int .i64 glo, .int .i64 ghi, .slice Ar nr cr, .slice Ad nd cd, .int .i64 wrg]) := by rw [← hX]; exact Lib.hid ((Blk.new w _ _).alloc _)
    have HQX : Hid (Blk X (w.heap.size + 1) 27 #[.int .i64 ir', .int .i64 glo', .int .i64 ghi', .slice Br nr dr, .slice Bd md dd, .int .i64 wrg']) := by
      rw [← hX]
      have := Blk.new (w.alloc (.cells #[.int .i64 ir, .int .i64 glo, .int .i64 ghi, .slice Ar nr cr, .slice Ad nd cd, .int .i64 wrg] 27)) 27 #[.int .i64 ir', .int .i64 glo', .int .i64 ghi', .slice Br nr dr, .slice Bd md dd, .int .i64 wrg']
      rw [World.size_alloc] at this
      exact Lib.hid this
    have qX := HPX.out.cell
    have lX := HPX.out.lt
    have pX := HQX.out.cell
    have gX := HQX.out.lt
    clear hX
    go_upto_region 3 with (go_at_call 12; first | (with_reducible refine (HRA.out X BX).mono ?_; (rintro e w1 ⟨rfl, hb⟩); (have Bw1 := BX.trans (hb.mono BX.size)); (have HPw1 := Lib.hid (HPX.out.below hb HPX.out.lt)); (have HQw1 := Lib.hid (HQX.out.below hb HQX.out.lt)); (have qw1 := HPw1.out.cell); (have lw1 := HPw1.out.lt); (have pw1 := HQw1.out.cell); (have gw1 := HQw1.out.lt); clear hb qX lX pX gX) | (with_reducible refine (HRB.out w1 Bw1).mono ?_; (rintro e w2 ⟨rfl, hb⟩); (have Bw2 := Bw1.trans (hb.mono Bw1.size)); (have HPw2 := Lib.hid (HPw1.out.below hb HPw1.out.lt)); (have HQw2 := Lib.hid (HQw1.out.below hb HQw1.out.lt)); (have qw2 := HPw2.out.cell); (have lw2 := HPw2.out.lt); (have pw2 := HQw2.out.cell); (have gw2 := HQw2.out.lt); clear hb qw1 lw1 pw1 gw1))
    go_upto_region 4 with (go_at_call 22; refine (HNA.out w2 Bw2).mono ?_; (rintro e w3 ⟨rfl, hb⟩); (have Bw3 := Bw2.trans (hb.mono Bw2.size)); (have HPw3 := Lib.hid (HPw2.out.below hb HPw2.out.lt)); (have HQw3 := Lib.hid (HQw2.out.below hb HQw2.out.lt)); (have qw3 := HPw3.out.cell); (have lw3 := HPw3.out.lt); (have pw3 := HQw3.out.cell); (have gw3 := HQw3.out.lt); clear hb qw2 lw2 pw2 gw2)
    go_upto_region 5 with (go_at_call 22; refine (HNB.out w3 Bw3).mono ?_; (rintro e w4 ⟨rfl, hb⟩); (have Bw4 := Bw3.trans (hb.mono Bw3.size)); (have HPw4 := Lib.hid (HPw3.out.below hb HPw3.out.lt)); (have HQw4 := Lib.hid (HQw3.out.below hb HQw3.out.lt)); (have qw4 := HPw4.out.cell); (have lw4 := HPw4.out.lt); (have pw4 := HQw4.out.cell); (have gw4 := HQw4.out.lt); clear hb qw3 lw3 pw3 gw3)
    have tB := TB.out
    go_wp2_with (go_at_call 18; (first | with_reducible refine (HK1.out _).mono ?_ | with_reducible refine (HK2.out _).mono ?_); rintro e w' ⟨rfl, rfl⟩)
    go_ret
    exact ⟨rfl, Bw4⟩
  have h0b := sub_op hs rda.ck rdb.ck h0
  have hpos := mn4_pos (by rw [hr]; exact oka.nr4) h0 rda.ck
  have hne : tr4 a ≠ [] := by
    obtain ⟨u, x, y, ht⟩ := (op4_truth rda.ck).1 h0
    exact tr4_ne ht
  have hneb : tr4 b ≠ [] := by
    obtain ⟨u, x, y, ht⟩ := (op4_truth rdb.ck).1 h0b
    exact tr4_ne ht
  have HLA := Lib.hid (fun (k : Nat) (hk : k = 1 ∨ k = 2) V (hV : Below w.heap.size w V) => by
    have := lengths4_c Ar nr cr Ad nd cd a (k : Int) V hnr hnd (HA.later hV) rda.len
    have hw : when4 (k : Int) = true := by rcases hk with rfl | rfl <;> rfl
    rw [hw, h0, lgs4_eq h0 hw] at this
    exact this)
  have HLB := Lib.hid (fun (k : Nat) (hk : k = 1 ∨ k = 2) V (hV : Below w.heap.size w V) => by
    have := lengths4_c Br nr dr Bd md dd b (k : Int) V hnr hmd (HB.later hV) rdb.len
    have hw : when4 (k : Int) = true := by rcases hk with rfl | rfl <;> rfl
    rw [hw, h0b, lgs4_eq h0b hw] at this
    exact this)
  have HOA := Lib.hid (fun (q : Nat) (hq : q < nr) V (hV : Below w.heap.size w V) => by
    have := rods4_c Ar nr cr Ad nd cd a (q : Int) V hnr hnd (HA.later hV) rda.len
    rw [(rds4_eq oka h0 hq).1, (rds4_eq oka h0 hq).2] at this
    exact this)
  have HOB := Lib.hid (fun (q : Nat) (hq : q < nr) V (hV : Below w.heap.size w V) => by
    have := rods4_c Br nr dr Bd md dd b (q : Int) V hnr hmd (HB.later hV) rdb.len
    rw [(rds4_eq okb h0b hq).1, (rds4_eq okb h0b hq).2] at this
    exact this)
  have HSL := Lib.hid (fun (wh : Int) => sub_lg hs rdb.g8 wh)
  have HSR := Lib.hid (fun (q : Nat) (hq : q < nr) => sub_rl hs okb hq)
  have HLL := Lib.hid (fun (wh : Int) => And.intro (lg4_len (p := a) (l := tr4 a) (wh := wh) rda.g8) (lg4_len (p := b) (l := tr4 b) (wh := wh) rdb.g8))
  have HRR := Lib.hid (fun (q : Nat) (hq : q < nr) => And.intro (rl4_len oka hq) (rl4_len okb hq))
  have HTA := fun V (hV : Below w.heap.size w V) => stretch4_c Ar nr cr Ad nd cd a V hnr hnd (HA.later hV) rda.len
  have HTB := fun V (hV : Below w.heap.size w V) => stretch4_c Br nr dr Bd md dd b V hnr hmd (HB.later hV) rdb.len
  rw [h0, show st4 a = en4 (tr4 a) (tr4 a).length by unfold st4; rw [ol4_ck rda.ck]] at HTA
  rw [h0b, show st4 b = en4 (tr4 b) (tr4 b).length by unfold st4; rw [ol4_ck rdb.ck]] at HTB
  have hsa := en4_sane (p := a) (fun x hx => tr4_ok oka hx) hne
  have hsb := en4_sane (p := b) (fun x hx => tr4_ok okb hx) hneb
  have hse := sub_en hs hne
  rw [h0] at HNA
  rw [h0b] at HNB
  obtain ⟨LA, hLA⟩ : ∃ f : Int → List Int, (fun wh => lg4 a (tr4 a) wh) = f := ⟨_, rfl⟩
  obtain ⟨LB, hLB⟩ : ∃ f : Int → List Int, (fun wh => lg4 b (tr4 b) wh) = f := ⟨_, rfl⟩
  obtain ⟨RA, hRA⟩ : ∃ f : Nat → List Int, (fun q => rl4 (tr4 a) q) = f := ⟨_, rfl⟩
  obtain ⟨RB, hRB⟩ : ∃ f : Nat → List Int, (fun q => rl4 (tr4 b) q) = f := ⟨_, rfl⟩
  have e1 : ∀ wh, lg4 a (tr4 a) wh = LA wh := fun wh => congrFun hLA wh
  have e2 : ∀ wh, lg4 b (tr4 b) wh = LB wh := fun wh => congrFun hLB wh
  have e3 : ∀ q, rl4 (tr4 a) q = RA q := fun q => congrFun hRA q
  have e4 : ∀ q, rl4 (tr4 b) q = RB q := fun q => congrFun hRB q
  simp only [e1, e2, e3, e4] at HLA HLB HOA HOB HSL HSR HLL HRR
  have HSA := fun V => sane4_c (en4 (tr4 a) (tr4 a).length) V
  have HSB := fun V => sane4_c (en4 (tr4 b) (tr4 b).length) V
  rw [hsa] at HSA
  rw [hsb] at HSB
  obtain ⟨lo, hlo⟩ : ∃ x, (en4 (tr4 a) (tr4 a).length).lo = x := ⟨_, rfl⟩
  obtain ⟨hi, hhi⟩ : ∃ x, (en4 (tr4 a) (tr4 a).length).hi = x := ⟨_, rfl⟩
  obtain ⟨lo', hlo'⟩ : ∃ x, (en4 (tr4 b) (tr4 b).length).lo = x := ⟨_, rfl⟩
  obtain ⟨hi', hhi'⟩ : ∃ x, (en4 (tr4 b) (tr4 b).length).hi = x := ⟨_, rfl⟩
  obtain ⟨m, hm⟩ : ∃ x, mn4 (tr4 a) (tr4 a).length = x := ⟨_, rfl⟩
  obtain ⟨n, hn⟩ : ∃ x, mn4 (tr4 b) (tr4 b).length = x := ⟨_, rfl⟩
  rw [hlo, hhi] at HTA HSA hse
  rw [hlo', hhi'] at HTB HSB hse
  rw [hm] at HNA hmn hpos
  rw [hn] at HNB hmn
  have HK1 := Lib.hid (fun V => isKnown4_c 0 V)
  rw [show kn4 0 = true from rfl] at HK1
  have T1 : Hid (decide (n < m) = false) := Lib.hid (decide_eq_false (by omega))
  have T2 : Hid (decide ((m : Int) < 1) = false) := Lib.hid (decide_eq_false (by omega))
  have T3 : Hid (decide (lo' ≤ lo) = true) := Lib.hid (decide_eq_true hse.1)
  have T4 : Hid (decide (hi ≤ hi') = true) := Lib.hid (decide_eq_true hse.2)
  have HAI := Lib.hid HA
  replace HNA := Lib.hid HNA
  replace HNB := Lib.hid HNB
  replace HRA := Lib.hid HRA
  replace HRB := Lib.hid HRB
  replace HTA := Lib.hid HTA
  replace HTB := Lib.hid HTB
  replace HSA := Lib.hid HSA
  replace HSB := Lib.hid HSB
  clear hra hrb HA HB hs rda rdb hr hd hr' hd' oka okb hmn h0 h0b hpos hne hneb hsa hsb hse hLA hLB hRA hRB e1 e2 e3 e4 hlo hhi hlo' hhi' hm hn
  obtain ⟨ir, glo, ghi, wrg, rods, res⟩ := a
  obtain ⟨ir', glo', ghi', wrg', rods', res'⟩ := b
  simp only at HRA HRB HNA HNB HLA HLB HOA HOB HTA HTB HAI ⊢
  go_enter Try.func20, Try.ntmps20
  go_upto_region 1 with (fail)
  go_name_world X hX
  have BX : Below w.heap.size w X := (al2 hX).1
  have HPX : Hid (Blk X w.heap.size 27 #[.int .i64 ir, .int .i64 glo, .int .i64 ghi, .slice Ar nr cr, .slice Ad nd cd, .int .i64 wrg]) := by rw [← hX]; exact Lib.hid ((Blk.new w _ _).alloc _)
  have HQX : Hid (Blk X (w.heap.size + 1) 27 #[.int .i64 ir', .int .i64 glo', .int .i64 ghi', .slice Br nr dr, .slice Bd md dd, .int .i64 wrg']) := by
    rw [← hX]
    have := Blk.new (w.alloc (.cells #[.int .i64 ir, .int .i64 glo, .int .i64 ghi, .slice Ar nr cr, .slice Ad nd cd, .int .i64 wrg] 27)) 27 #[.int .i64 ir', .int .i64 glo', .int .i64 ghi', .slice Br nr dr, .slice Bd md dd, .int .i64 wrg']
    rw [World.size_alloc] at this
    exact Lib.hid this
  have qX := HPX.out.cell
  have lX := HPX.out.lt
  have pX := HQX.out.cell
  have gX := HQX.out.lt
  clear hX
  go_upto_region 3 with (go_at_call 12; first | (with_reducible refine (HRA.out X BX).mono ?_; (rintro e w1 ⟨rfl, hb⟩); (have Bw1 := BX.trans (hb.mono BX.size)); (have HPw1 := Lib.hid (HPX.out.below hb HPX.out.lt)); (have HQw1 := Lib.hid (HQX.out.below hb HQX.out.lt)); (have qw1 := HPw1.out.cell); (have lw1 := HPw1.out.lt); (have pw1 := HQw1.out.cell); (have gw1 := HQw1.out.lt); clear hb qX lX pX gX) | (with_reducible refine (HRB.out w1 Bw1).mono ?_; (rintro e w2 ⟨rfl, hb⟩); (have Bw2 := Bw1.trans (hb.mono Bw1.size)); (have HPw2 := Lib.hid (HPw1.out.below hb HPw1.out.lt)); (have HQw2 := Lib.hid (HQw1.out.below hb HQw1.out.lt)); (have qw2 := HPw2.out.cell); (have lw2 := HPw2.out.lt); (have pw2 := HQw2.out.cell); (have gw2 := HQw2.out.lt); clear hb qw1 lw1 pw1 gw1))
  go_upto_region 4 with (go_at_call 22; refine (HNA.out w2 Bw2).mono ?_; (rintro e w3 ⟨rfl, hb⟩); (have Bw3 := Bw2.trans (hb.mono Bw2.size)); (have HPw3 := Lib.hid (HPw2.out.below hb HPw2.out.lt)); (have HQw3 := Lib.hid (HQw2.out.below hb HQw2.out.lt)); (have qw3 := HPw3.out.cell); (have lw3 := HPw3.out.lt); (have pw3 := HQw3.out.cell); (have gw3 := HQw3.out.lt); clear hb qw2 lw2 pw2 gw2)
  go_upto_region 5 with (go_at_call 22; refine (HNB.out w3 Bw3).mono ?_; (rintro e w4 ⟨rfl, hb⟩); (have Bw4 := Bw3.trans (hb.mono Bw3.size)); (have HPw4 := Lib.hid (HPw3.out.below hb HPw3.out.lt)); (have HQw4 := Lib.hid (HQw3.out.below hb HQw3.out.lt)); (have qw4 := HPw4.out.cell); (have lw4 := HPw4.out.lt); (have pw4 := HQw4.out.cell); (have gw4 := HQw4.out.lt); clear hb qw3 lw3 pw3 gw3)
  have t1 := T1.out
  have t2 := T2.out
  go_wp2_with (go_at_call 18; (refine (HK1.out _).mono ?_); rintro e w' ⟨rfl, rfl⟩)
  clear t1 t2
  go_loopw [9] (fun i (wr : World) => ∃ k : Nat, 1 ≤ k ∧ k ≤ 3 ∧ i = .int .i64 k ∧ Below w4.heap.size w4 wr) (fun i _ => 3 - (intOf i).toNat)
  case atStart => exact ⟨1, by omega, by omega, by simp, Below.refl _ _⟩
  case round =>
    obtain ⟨k, hk1, hk3, rfl, hb⟩ := hrel
    obtain ⟨wo, rfl⟩ : ∃ wo : World, wo = wr := ⟨_, rfl⟩
    have zb := hb.size
    have qo := fun j => (hb.cell (p := ⟨w.heap.size, j, none⟩) lw4).trans (qw4 j)
    have po := fun j => (hb.cell (p := ⟨w.heap.size + 1, j, none⟩) gw4).trans (pw4 j)
    have lo0 : w.heap.size < wo.heap.size := by omega
    have go0 : w.heap.size + 1 < wo.heap.size := by omega
    have hwo := Lib.hid (Bw4.trans (hb.mono Bw4.size))
    by_cases hlt : k ≤ 2
    · have hqB : decide ((k : Int) ≤ 2) = true := decide_eq_true (by omega)
      have vk : IntKind.i64.wrap ((k : Int) + 1) = (k : Int) + 1 := IntWalk.i64_in _ (by omega)
      have hk : k = 1 ∨ k = 2 := by omega
      have HCA := HLA.out k hk
      have HCB := HLB.out k hk
      have hsu := HSL.out (k : Int)
      obtain ⟨n1, n2⟩ := HLL.out (k : Int)
      obtain ⟨L1, hL1⟩ : ∃ L, LA (k : Int) = L := ⟨_, rfl⟩
      obtain ⟨L2, hL2⟩ : ∃ L, LB (k : Int) = L := ⟨_, rfl⟩
      rw [hL1] at HCA hsu n1
      rw [hL2] at HCB hsu n2
      have HSU := fun A c B d V (H1 : IntsAt V A L1.length L1) (H2 : IntsAt V B L2.length L2) => subset4_c A B L1.length L2.length c d L1 L2 V (by omega) (by omega) H1 H2
      rw [hsu] at HSU
      obtain ⟨k1, hk1⟩ : ∃ n, L1.length = n := ⟨_, rfl⟩
      obtain ⟨k2, hk2⟩ : ∃ n, L2.length = n := ⟨_, rfl⟩
      rw [hk1] at HCA HSU
      rw [hk2] at HCB HSU
      replace HCA := Lib.hid HCA
      replace HCB := Lib.hid HCB
      replace HSU := Lib.hid HSU
      clear hL1 hL2 hsu n1 n2 hk hk1 hk2
      go_upto_region 13 with (go_at_call 24; refine (HCA.out wo hwo.out).mono ?_; (rintro e w5 ⟨A5, c5, rfl, hI, hb5⟩); (have HI5 := Lib.hid hI); (have B5 := Lib.hid (hwo.out.trans (hb5.mono hwo.out.size))); (have D5 := Lib.hid (hb.trans (hb5.mono zb))); (have p5 := fun j => (hb5.cell (p := ⟨w.heap.size + 1, j, none⟩) go0).trans (po j)); (have g5 := Nat.lt_of_lt_of_le go0 hb5.size); clear hb5 hI qo po)
      go_wp2_with (first | (go_at_call 24; refine (HCB.out w5 B5.out).mono ?_; (rintro e w6 ⟨A6, c6, rfl, hI, hb6⟩); (have HI6 := Lib.hid hI); (have HI56 := Lib.hid (HI5.out.later hb6)); (have D6 := Lib.hid (D5.out.trans (hb6.mono D5.out.size))); clear hb6 hI p5) | (go_at_call 53; refine (HSU.out _ _ _ _ w6 HI56.out HI6.out).mono ?_; (rintro e w7 ⟨rfl, hb7⟩); (have D7 := Lib.hid (D6.out.trans (hb7.mono D6.out.size))); clear hb7))
      go_roundw
      case rel => exact ⟨k + 1, by omega, by omega, by go_num, D7.out⟩
      case measure => simp [intOf]; omega
    · have hqB : decide ((k : Int) ≤ 2) = false := decide_eq_false (by omega)
      clear hk1 hk3
      go_wp2_with fail
      go_loopw [14] (fun i (wr : World) => ∃ k : Nat, k ≤ nr ∧ i = .int .i64 k ∧ Below wo.heap.size wo wr) (fun i _ => nr - (intOf i).toNat)
      case atStart => exact ⟨0, by omega, by simp, Below.refl _ _⟩
      case round =>
        obtain ⟨q, hq, rfl, hb2⟩ := hrel
        have zb2 := hb2.size
        have qr := fun j => (hb2.cell (p := ⟨w.heap.size, j, none⟩) lo0).trans (qo j)
        have pr := fun j => (hb2.cell (p := ⟨w.heap.size + 1, j, none⟩) go0).trans (po j)
        have lr0 : w.heap.size < wr.heap.size := by omega
        have gr0 : w.heap.size + 1 < wr.heap.size := by omega
        have hwr := Lib.hid (hwo.out.trans (hb2.mono hwo.out.size))
        by_cases hltq : q < nr
        · have hqB2 : decide ((q : Int) < nr) = true := by simp; omega
          have vk : IntKind.i64.wrap ((q : Int) + 1) = (q : Int) + 1 := IntWalk.i64_in _ (by omega)
          have HCA := HOA.out q hltq
          have HCB := HOB.out q hltq
          have hsu := HSR.out q hltq
          obtain ⟨n1, n2⟩ := HRR.out q hltq
          obtain ⟨L1, hL1⟩ : ∃ L, RA q = L := ⟨_, rfl⟩
          obtain ⟨L2, hL2⟩ : ∃ L, RB q = L := ⟨_, rfl⟩
          rw [hL1] at HCA hsu n1
          rw [hL2] at HCB hsu n2
          have HSU := fun A c B d V (H1 : IntsAt V A L1.length L1) (H2 : IntsAt V B L2.length L2) => subset4_c A B L1.length L2.length c d L1 L2 V (by omega) (by omega) H1 H2
          rw [hsu] at HSU
          obtain ⟨k1, hk1'⟩ : ∃ n, L1.length = n := ⟨_, rfl⟩
          obtain ⟨k2, hk2'⟩ : ∃ n, L2.length = n := ⟨_, rfl⟩
          rw [hk1'] at HCA HSU
          rw [hk2'] at HCB HSU
          replace HCA := Lib.hid HCA
          replace HCB := Lib.hid HCB
          replace HSU := Lib.hid HSU
          clear hL1 hL2 hsu n1 n2 hk1' hk2'
          go_upto_region 20 with (go_at_call 25; refine (HCA.out wr hwr.out).mono ?_; (rintro e w5 ⟨A5, c5, rfl, hI, hb5⟩); (have HI5 := Lib.hid hI); (have B5 := Lib.hid (hwr.out.trans (hb5.mono hwr.out.size))); (have D5 := Lib.hid (hb2.trans (hb5.mono zb2))); (have p5 := fun j => (hb5.cell (p := ⟨w.heap.size + 1, j, none⟩) gr0).trans (pr j)); (have g5 := Nat.lt_of_lt_of_le gr0 hb5.size); clear hb5 hI qr pr)
          go_wp2_with (first | (go_at_call 25; refine (HCB.out w5 B5.out).mono ?_; (rintro e w6 ⟨A6, c6, rfl, hI, hb6⟩); (have HI6 := Lib.hid hI); (have HI56 := Lib.hid (HI5.out.later hb6)); (have D6 := Lib.hid (D5.out.trans (hb6.mono D5.out.size))); clear hb6 hI p5) | (go_at_call 53; refine (HSU.out _ _ _ _ w6 HI56.out HI6.out).mono ?_; (rintro e w7 ⟨rfl, hb7⟩); (have D7 := Lib.hid (D6.out.trans (hb7.mono D6.out.size))); clear hb7))
          go_roundw
          case rel => exact ⟨q + 1, by omega, by go_num, D7.out⟩
          case measure => simp [intOf]; omega
        · obtain rfl : nr = q := by omega
          have hqB2 : decide (((nr : Nat) : Int) < nr) = false := by simp
          go_upto_region 24 with (go_at_call 14; refine (HTA.out wr hwr.out).mono ?_; (rintro e w5 ⟨rfl, hb5⟩); (have B5 := hwr.out.trans (hb5.mono hwr.out.size)); (have p5 := fun j => (hb5.cell (p := ⟨w.heap.size + 1, j, none⟩) gr0).trans (pr j)); (have g5 := Nat.lt_of_lt_of_le gr0 hb5.size); clear hb5 qr pr)
          go_name_world Y hY
          have bY := (al1 hY).1
          have BY := B5.trans (bY.mono B5.size)
          have HSY : Hid (Blk Y w5.heap.size 23 #[.int .i64 lo, .int .i64 hi]) := by rw [← hY]; exact Lib.hid (Blk.new _ _ _)
          have pY := fun j => (bY.cell (p := ⟨w.heap.size + 1, j, none⟩) g5).trans (p5 j)
          have gY := Nat.lt_of_lt_of_le g5 bY.size
          clear hY bY p5 g5
          go_upto_region 25 with (go_at_call 14; refine (HTB.out Y BY).mono ?_; (rintro e w6 ⟨rfl, hb6⟩); (have B6 := BY.trans (hb6.mono BY.size)); (have HS6 := Lib.hid (HSY.out.below hb6 HSY.out.lt)); clear hb6 pY gY)
          go_name_world Z hZ
          have bZ := (al1 hZ).1
          have BZ := B6.trans (bZ.mono B6.size)
          have HSZ := Lib.hid (HS6.out.below bZ HS6.out.lt)
          have HUZ : Hid (Blk Z w6.heap.size 23 #[.int .i64 lo', .int .i64 hi']) := by rw [← hZ]; exact Lib.hid (Blk.new _ _ _)
          clear hZ bZ
          have sZ := HSZ.out.cell
          have uZ := HSZ.out.lt
          have tZ := HUZ.out.cell
          have vZ := HUZ.out.lt
          have t3 := T3.out
          have t4 := T4.out
          go_wp2_with (go_at_call 15; first | (with_reducible refine (HSA.out Z).mono ?_; (rintro e w8 ⟨rfl, hb⟩); (have B8 := BZ.trans (hb.mono BZ.size)); (have HS8 := Lib.hid (HSZ.out.below hb HSZ.out.lt)); (have HU8 := Lib.hid (HUZ.out.below hb HUZ.out.lt)); (have s8 := HS8.out.cell); (have u8' := HS8.out.lt); (have t8 := HU8.out.cell); (have v8 := HU8.out.lt); clear hb sZ uZ tZ vZ) | (with_reducible refine (HSB.out w8).mono ?_; (rintro e w9 ⟨rfl, hb⟩); (have B9 := B8.trans (hb.mono B8.size)); (have HS9 := Lib.hid (HS8.out.below hb HS8.out.lt)); (have HU9 := Lib.hid (HU8.out.below hb HU8.out.lt)); (have s9 := HS9.out.cell); (have u9' := HS9.out.lt); (have t9 := HU9.out.cell); (have v9 := HU9.out.lt); clear hb s8 u8' t8 v8))
          go_ret
          exact ⟨ret_bool (by first | rfl | simp), B9⟩

end Go.Proofs.Ytjlibgledkdfiaa
