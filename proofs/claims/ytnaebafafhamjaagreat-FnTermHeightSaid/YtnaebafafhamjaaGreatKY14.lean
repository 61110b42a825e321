/- Texts of the proof, one behind another. -/
import Derived.IntWalk
import Derived.Laws.BitsAllLaws
import Derived.Test.YtnaebafafhamjaaGreatKY8
import Derived.Test.YtnaebafafhamjaaGreatKY9
import Derived.Test.YtnaebafafhamjaaGreatKY10
import Derived.Test.YtnaebafafhamjaaGreatKY12
set_option linter.unusedSimpArgs false
set_option linter.unusedVariables false
/- The reference's reader, on shadows. -/
namespace Go.Proofs.Sh
open Go.RowKit
def byC (x : Int) : List C := [.sc (.int .u8 x)]
def byR (l : List Int) : List (List C) := l.map byC
def byte (l : List Int) (k : Nat) : Int := l.getD k 0
@[go_sem] theorem byC_length (x : Int) : (byC x).length = 1 := rfl
@[go_sem] theorem byC_0 (x : Int) : (byC x)[0]? = some (.sc (.int .u8 x)) := rfl
@[go_sem] theorem byR_length (l : List Int) : (byR l).length = l.length := by simp [byR]
@[go_sem] theorem byR_at (l : List Int) (i : Nat) : (byR l)[i]? = match decide ((i : Int) < (l.length : Int)) with | true => some (byC (byte l i)) | false => none := by
  by_cases h : i < l.length
  · have h' : (i : Int) < (l.length : Int) := by omega
    simp [byR, byte, h, h']
  · have h' : ¬ (i : Int) < (l.length : Int) := by omega
    simp [byR, h, h']
@[go_sem] theorem byR_tree (l : List Int) : treeRows (byR l) = true := by
  simp [byR, treeRows, treeL, byC, C.tree]
@[go_sem] theorem byR_len (l : List Int) : rowsLen 1 (byR l) = true := by
  simp [byR, rowsLen, byC]
theorem byR_take (l : List Int) (n : Nat) : (byR l).take n = byR (l.take n) := by simp [byR, List.map_take]
/-- bytes -/
structure Bs (l : List Int) : Prop where
  len : l.length ≤ 2000
  all : ∀ k, 0 ≤ byte l k ∧ byte l k < 256
theorem i64_xor' (a b : Nat) (ha : a < 9223372036854775808) (hb : b < 9223372036854775808) : IntKind.i64.wrap ((BitVec.ofInt 64 (a : Int) ^^^ BitVec.ofInt 64 (b : Int)).toNat : Int) = ((a ^^^ b : Nat) : Int) := by
  have hx : a ^^^ b < 2 ^ 63 := Nat.xor_lt_two_pow (by omega) (by omega)
  rw [BitVec.toNat_xor, ofInt_u64 a (by omega), ofInt_u64 b (by omega), IntKind.wrap_i64]
  omega
end Go.Proofs.Sh
namespace Go.Proofs.YtnaebafafhamjaaGreat
open Go.RowKit Go.Proofs.Sh
set_option maxRecDepth 100000
set_option maxHeartbeats 4000000
theorem pick (bs : List Int) (hB : Bs bs) (p : Nat) (hp : p < 1099511627776) (n : Int) (hn1 : -1099511627776 ≤ n) (hn2 : n ≤ 1099511627776) :
    ACl Tryz.prog 101 [.one (.ptr 2 0 0 0), .one (.sc (.int .i64 n))] [(⟨2, 115, .mut, [[.sl (byR bs), .sc (.int .i64 ((p : Nat) : Int))]]⟩ : Blk)] (fun r H' => ∃ z : Int, r = .one (.sc (.int .i64 z)) ∧ 0 ≤ z ∧ (z < n ∨ z = 0) ∧ H' = [(⟨2, 115, .mut, [[.sl (byR bs), .sc (.int .i64 ((p + 1 : Nat) : Int))]]⟩ : Blk)]) := by
  have wq : IntKind.i64.wrap ((p : Int) + 1) = ((p + 1 : Nat) : Int) := by rw [IntWalk.i64_in _ (by omega)]; omega
  have wr : IntKind.i64.wrap (((p + 1 : Nat) : Int) - 1) = (p : Int) := by rw [IntWalk.i64_in _ (by omega)]; omega
  by_cases hz : n < 1
  · have hd : decide (n < 1) = true := by simp [hz]
    refine acl_in Tryz.func101 rfl isfn_101 (Nat.le_of_ble_eq_true rfl) (fun R hR => ?_); rw [Tryz.results101] at hR; refine wg_run ?_; (simp only [Tryz.f101, go_sem, hd, wq])
    exact hR _ (rat [] (hK := ⟨0, rfl, Int.le_refl _, .inr rfl, rfl⟩))
  · have hd : decide (n < 1) = false := by simp; omega
    have hl := hB.len
    by_cases hm : bs.length = 0
    · have hm1 : (((bs.length : Nat) : Int) == 0) = true := by simp [hm]
      refine acl_in Tryz.func101 rfl isfn_101 (Nat.le_of_ble_eq_true rfl) (fun R hR => ?_); rw [Tryz.results101] at hR; refine wg_run ?_; (simp only [Tryz.f101, go_sem, hd, wq, hm1])
      exact hR _ (rat [] (hK := ⟨0, rfl, Int.le_refl _, .inr rfl, rfl⟩))
    · have hm1 : (((bs.length : Nat) : Int) == 0) = false := by rw [beq_eq_false_iff_ne]; omega
      have hn0 : decide (n = 0) = false := by simp; omega
      have hn00 : (n == 0) = false := by simp; omega
      by_cases hpl : p < bs.length
      · have hpp : decide ((p : Int) < (bs.length : Int)) = true := by simp; omega
        have hb := hB.all p
        have wx : IntKind.i64.wrap (byte bs p) = byte bs p := IntWalk.i64_in _ (by omega)
        have hrem : 0 ≤ (byte bs p).tmod n ∧ (byte bs p).tmod n < n := ⟨Int.tmod_nonneg _ hb.1, Int.tmod_lt_of_pos _ (by omega)⟩
        refine acl_in Tryz.func101 rfl isfn_101 (Nat.le_of_ble_eq_true rfl) (fun R hR => ?_); rw [Tryz.results101] at hR; refine wg_run ?_; (simp only [Tryz.f101, go_sem, hd, wq, hm1, wr, hpp, wx, hn0])
        exact hR _ (rat [] (hK := ⟨_, rfl, hrem.1, .inl hrem.2, rfl⟩))
      · have hpp : decide ((p : Int) < (bs.length : Int)) = false := by simp; omega
        have hm0 : decide (((bs.length : Nat) : Int) = 0) = false := by rw [decide_eq_false_iff_not]; omega
        have hx := hB.all (p % bs.length)
        have hy := hB.all ((p * 7 + 3) % bs.length)
        have t1 : (p : Int).tmod (bs.length : Int) = ((p % bs.length : Nat) : Int) := by rw [Int.tmod_eq_emod_of_nonneg (by omega)]; simp
        have t2 : ((p : Int) * 7 + 3).tmod (bs.length : Int) = (((p * 7 + 3) % bs.length : Nat) : Int) := by rw [Int.tmod_eq_emod_of_nonneg (by omega)]; simp
        have t3 : (p : Int).tdiv (bs.length : Int) = ((p / bs.length : Nat) : Int) := by rw [Int.tdiv_eq_ediv_of_nonneg (by omega)]; simp
        have g1 : decide (((p % bs.length : Nat) : Int) < (bs.length : Int)) = true := by have := Nat.mod_lt p (show 0 < bs.length by omega); simp only [decide_eq_true_eq]; omega
        have g2 : decide ((((p * 7 + 3) % bs.length : Nat) : Int) < (bs.length : Int)) = true := by have := Nat.mod_lt (p * 7 + 3) (show 0 < bs.length by omega); simp only [decide_eq_true_eq]; omega
        have hdv : p / bs.length ≤ p := Nat.div_le_self _ _
        generalize hxe : byte bs (p % bs.length) = x at *
        generalize hye : byte bs ((p * 7 + 3) % bs.length) = y at *
        generalize hdd : p / bs.length = dd at *
        have w1 : IntKind.i64.wrap ((p : Int) * 7) = (p : Int) * 7 := IntWalk.i64_in _ (by omega)
        have w2 : IntKind.i64.wrap ((p : Int) * 7 + 3) = (p : Int) * 7 + 3 := IntWalk.i64_in _ (by omega)
        have w3 : IntKind.i64.wrap (x * 131) = x * 131 := IntWalk.i64_in _ (by omega)
        have w4 : IntKind.i64.wrap (y * 1117) = y * 1117 := IntWalk.i64_in _ (by omega)
        have w5 : IntKind.i64.wrap (x * 131 + y * 1117) = x * 131 + y * 1117 := IntWalk.i64_in _ (by omega)
        have w6 : IntKind.i64.wrap ((p : Int) * 29) = (p : Int) * 29 := IntWalk.i64_in _ (by omega)
        have w7 : IntKind.i64.wrap (x * 131 + y * 1117 + (p : Int) * 29) = x * 131 + y * 1117 + (p : Int) * 29 := IntWalk.i64_in _ (by omega)
        have w8 : IntKind.i64.wrap ((dd : Int) * 53) = (dd : Int) * 53 := IntWalk.i64_in _ (by omega)
        have w9 : IntKind.i64.wrap (x * 131 + y * 1117 + (p : Int) * 29 + (dd : Int) * 53) = x * 131 + y * 1117 + (p : Int) * 29 + (dd : Int) * 53 := IntWalk.i64_in _ (by omega)
        have wx : IntKind.i64.wrap x = x := IntWalk.i64_in _ (by omega)
        have wy : IntKind.i64.wrap y = y := IntWalk.i64_in _ (by omega)
        have wd : IntKind.i64.wrap (dd : Int) = (dd : Int) := IntWalk.i64_in _ (by omega)
        obtain ⟨s, hs, hs2⟩ : ∃ s : Nat, x * 131 + y * 1117 + (p : Int) * 29 + (dd : Int) * 53 = (s : Int) ∧ s < 4611686018427387904 := ⟨(x * 131 + y * 1117 + (p : Int) * 29 + (dd : Int) * 53).toNat, by omega, by omega⟩
        have t4 : (s : Int).tdiv 64 = ((s / 64 : Nat) : Int) := by rw [Int.tdiv_eq_ediv_of_nonneg (by omega)]; simp
        have w10 : IntKind.i64.wrap ((s / 64 : Nat) : Int) = ((s / 64 : Nat) : Int) := IntWalk.i64_in _ (by omega)
        have w11 : IntKind.i64.wrap (s : Int) = (s : Int) := IntWalk.i64_in _ (by omega)
        have hxo : IntKind.i64.wrap ((BitVec.ofInt 64 (s : Int) ^^^ BitVec.ofInt 64 ((s / 64 : Nat) : Int)).toNat : Int) = ((s ^^^ (s / 64) : Nat) : Int) := i64_xor' s (s / 64) (by omega) (by omega)
        generalize hze : s ^^^ (s / 64) = z at *
        have hrem : 0 ≤ (z : Int).tmod n ∧ (z : Int).tmod n < n := ⟨Int.tmod_nonneg _ (by omega), Int.tmod_lt_of_pos _ (by omega)⟩
        refine acl_in Tryz.func101 rfl isfn_101 (Nat.le_of_ble_eq_true rfl) (fun R hR => ?_); rw [Tryz.results101] at hR; refine wg_run ?_; (simp only [Tryz.f101, go_sem, hd, wq, hm1, wr, hpp])
        refine wd_mix 0 [] follows (by kernel_rfl) (by (simp only [go_sem]); first | done | rfl) ?_
        (simp only [go_sem, hm0, hxe, hye, t1, t2, t3, g1, g2, w1, w2, w3, w4, w5, w6, w7, w8, w9, wx, wy, wd, hs])
        refine wm_done ?_
        (simp only [go_sem, hn0, t4, w10, w11, hxo])
        refine hR _ (rat [] (hK := ⟨_, rfl, ?_, .inl ?_, rfl⟩))
        · have h := hrem.1; rw [← hxo] at h; exact h
        · have h := hrem.2; rw [← hxo] at h; exact h
/-- whole numbers as rows of a slice -/
theorem num (bs : List Int) (hB : Bs bs) (p : Nat) (hp : p < 1099511627776) (l : List Int) (h1 : 0 < l.length) (h2 : l.length < 1000) :
    ACl Tryz.prog 102 [.one (.ptr 2 0 0 0), .one (.sl (l.map fun x => [.sc (.int .i64 x)]))] [(⟨2, 115, .mut, [[.sl (byR bs), .sc (.int .i64 ((p : Nat) : Int))]]⟩ : Blk)] (fun r H' => ∃ z : Int, r = .one (.sc (.int .i64 z)) ∧ z ∈ l ∧ H' = [(⟨2, 115, .mut, [[.sl (byR bs), .sc (.int .i64 ((p + 1 : Nat) : Int))]]⟩ : Blk)]) := by
  have hk := pick bs hB p hp (l.length : Nat) (by omega) (by omega)
  refine acl_in Tryz.func102 rfl isfn_102 (Nat.le_of_ble_eq_true rfl) (fun R hR => ?_); rw [Tryz.results102] at hR; refine wg_run ?_; (simp only [Tryz.f102, go_sem, List.length_map])
  refine wd_cl [0] (by (simp only [go_sem]); first | done | rfl) hk ?_
  rintro _ _ ⟨z, rfl, hz0, hz1, rfl⟩
  obtain ⟨z, rfl⟩ := Int.eq_ofNat_of_zero_le hz0
  have hz : z < l.length := by omega
  have hm : (l.map fun x => [C.sc (.int .i64 x)])[z]? = some [C.sc (.int .i64 l[z])] := by simp [hz]
  have hz2 : decide ((0 : Int) ≤ (z : Int)) = true := by simp
  (simp only [go_sem, hm, hz2])
  exact hR _ (rat [] (hK := ⟨_, rfl, List.getElem_mem hz, rfl⟩))
theorem ofs (bs : List Int) (hB : Bs bs) (p : Nat) (hp : p < 1099511627776) (l : List ByteArray) (h1 : 0 < l.length) (h2 : l.length < 1000) :
    ACl Tryz.prog 148 [.one (.ptr 2 0 0 0), .one (.sl (l.map fun x => [.sc (.string x)]))] [(⟨2, 115, .mut, [[.sl (byR bs), .sc (.int .i64 ((p : Nat) : Int))]]⟩ : Blk)] (fun r H' => ∃ z : ByteArray, r = .one (.sc (.string z)) ∧ z ∈ l ∧ H' = [(⟨2, 115, .mut, [[.sl (byR bs), .sc (.int .i64 ((p + 1 : Nat) : Int))]]⟩ : Blk)]) := by
  have hk := pick bs hB p hp (l.length : Nat) (by omega) (by omega)
  refine acl_in Tryz.func148 rfl isfn_148 (Nat.le_of_ble_eq_true rfl) (fun R hR => ?_); rw [Tryz.results148] at hR; refine wg_run ?_; (simp only [Tryz.f148, go_sem, List.length_map])
  refine wd_cl [0] (by (simp only [go_sem]); first | done | rfl) hk ?_
  rintro _ _ ⟨z, rfl, hz0, hz1, rfl⟩
  obtain ⟨z, rfl⟩ := Int.eq_ofNat_of_zero_le hz0
  have hz : z < l.length := by omega
  have hm : (l.map fun x => [C.sc (.string x)])[z]? = some [C.sc (.string l[z])] := by simp [hz]
  have hz2 : decide ((0 : Int) ≤ (z : Int)) = true := by simp
  (simp only [go_sem, hm, hz2])
  exact hR _ (rat [] (hK := ⟨_, rfl, List.getElem_mem hz, rfl⟩))
theorem byte_take (l : List Int) (n k : Nat) : byte (l.take n) k = byte l k ∨ byte (l.take n) k = 0 := by
  unfold byte
  by_cases h : k < n
  · left; simp [List.getD_eq_getElem?_getD, List.getElem?_take, h]
  · right; simp [List.getD_eq_getElem?_getD, List.getElem?_take, h]
theorem opn (l : List Int) (hl : l.length < 4611686018427387904) (hb : ∀ k, 0 ≤ byte l k ∧ byte l k < 256) :
    ACl Tryz.prog 68 [.one (.sl (byR l))] [] (fun r H' => ∃ bs : List Int, Bs bs ∧ r = .one (.ptr 2 0 0 0) ∧ H' = [(⟨2, 115, .mut, [[.sl (byR bs), .sc (.int .i64 ((0 : Nat) : Int))]]⟩ : Blk)]) := by
  by_cases h : 2000 < l.length
  · have hd : decide (((l.length : Nat) : Int) > 2000) = true := by simp; omega
    have hd2 : decide (2000 ≤ l.length) = true := by simp; omega
    refine acl_in Tryz.func68 rfl isfn_68 (Nat.le_of_ble_eq_true rfl) (fun R hR => ?_); rw [Tryz.results68] at hR; refine wg_run ?_; (simp only [Tryz.f68, go_sem, hd, hd2, byR_take])
    refine hR _ (rat [0] (hK := ⟨l.take 2000, ⟨by simp; omega, fun k => ?_⟩, rfl, ?_⟩))
    · rcases byte_take l 2000 k with h | h <;> rw [h]
      · exact hb k
      · omega
    · simp
  · have hd : decide (((l.length : Nat) : Int) > 2000) = false := by simp; omega
    refine acl_in Tryz.func68 rfl isfn_68 (Nat.le_of_ble_eq_true rfl) (fun R hR => ?_); rw [Tryz.results68] at hR; refine wg_run ?_; (simp only [Tryz.f68, go_sem, hd])
    exact hR _ (rat [0] (hK := ⟨l, ⟨by omega, hb⟩, rfl, rfl⟩))
end Go.Proofs.YtnaebafafhamjaaGreat
/- Types: copies, on shadows. -/
namespace Go.Proofs.YtnaebafafhamjaaGreat
open Go.RowKit Go.Proofs.Sh Go.Proofs.Grad
set_option maxRecDepth 100000
set_option maxHeartbeats 4000000
theorem l1Copy (n : Nat) (hn : n ≤ 4398046511104) : ∀ t : Ty, t.size < n → AFn Tryz.prog 119 [.agg (tyC t)] (.agg (tyC t)) := by
  induction n with
  | zero => intro t h; omega
  | succ n ih =>
    intro t h
    have hl : t.kids.length < 4398046511104 := by have := Ty.length_le_sizes t.kids; cases t; simp only [Ty.size, Ty.kids] at *; omega
    refine fn_in ?_; refine acl_in Tryz.func119 rfl isfn_119 (Nat.le_of_ble_eq_true rfl) (fun R hR => ?_); rw [Tryz.results119] at hR; refine wg_run ?_; (simp only [Tryz.f119, go_sem])
    refine wd_for [1, 2, 3, 4] (fun k => [.one (.ptr 2 0 0 0), .one (.ptr 2 1 0 0), .one (.ptr 2 2 0 0), .one (.sc (.int .i64 (k : Nat)))])
      (fun k => [⟨2, 25, .mut, [tyC t]⟩, ⟨2, 25, .mut, [[.sc (.int .i64 0), .sc (.slice none 0 0)]]⟩] ++ (match k with | 0 => [⟨2, 25, .mut, [[.sc (.int .i64 t.kind), .sc (.slice none 0 0)]]⟩] | k + 1 => [⟨2, 25, .mut, [[.sc (.int .i64 t.kind), .row 2 3 (k + 1)]]⟩, ⟨2, 25, .mut, tyR (t.kids.take (k + 1))⟩]))
      (fun k => k ≤ t.kids.length) (fun k => t.kids.length - k) 0 (Nat.zero_le _) (hat [0, 1, 2] (hI := ⟨rfl, rfl⟩)) ?_
    rintro (_ | k) hk G hG
    · refine wg_run ?_
      (simp only [go_sem])
      ((first | apply sp1 | apply sp2 | apply sp3 | apply sp4 | apply sp5 | apply sp6 | apply sp7) <;> intro hb) <;> (simp only [go_sem, hb])
      · have hk1 : 0 < t.kids.length := by have := of_decide_eq_true hb; omega
        ((first | refine mxq6 [] ?_ | refine mxq5 [] ?_ | refine mxq4 [] ?_ | refine mxq3 [] ?_ | refine mxq2 [] ?_ | refine mxq1 [] ?_ | refine mxq0 [] ?_ | fail); (simp only [go_sem]))
        (simp only [go_sem, hb])
        (first | refine cdq ?_ (hc := ih (by omega) _ (by have := kid_lt hk1; omega)) | refine cmq ?_ (hc := ih (by omega) _ (by have := kid_lt hk1; omega)) | refine ctq ?_ (hc := ih (by omega) _ (by have := kid_lt hk1; omega))); (simp only [go_sem])
        repeat' (first | (((first | apply sp1 | apply sp2 | apply sp3 | apply sp4 | apply sp5 | apply sp6 | apply sp7) <;> intro hb) <;> (simp only [go_sem, hb])) | ((first | apply wm_done | apply wt_done | apply wg_run | refine fk ?_ ?_) <;> (simp only [go_sem])))
        refine hG 1 _ _ (by omega) (by omega) (hat [0, 1, 2, 4] (hI := ⟨rfl, ?_⟩))
        simp only [tyR_take hk1, List.take_zero, tyR, List.nil_append, List.cons_append]
      · have hk1 : t.kids = [] := by have := of_decide_eq_false hb; exact List.eq_nil_of_length_eq_zero (by omega)
        (refine hR _ (rat [] (hK := ⟨?_, rfl⟩)))
        rw [tyC_eq, hk1]; rfl
    · refine wg_run ?_
      have hw1 : k + 1 < t.kids.length → IntKind.i64.wrap (((k + 1 : Nat) : Int) + 1) = ((k + 1 + 1 : Nat) : Int) := fun h => wrap_succ h (by omega)
      (simp only [go_sem])
      ((first | apply sp1 | apply sp2 | apply sp3 | apply sp4 | apply sp5 | apply sp6 | apply sp7) <;> intro hb) <;> (simp only [go_sem, hb])
      · have hk1 : k + 1 < t.kids.length := by have := of_decide_eq_true hb; omega
        have hw1 := hw1 hk1
        ((first | refine mxq6 [] ?_ | refine mxq5 [] ?_ | refine mxq4 [] ?_ | refine mxq3 [] ?_ | refine mxq2 [] ?_ | refine mxq1 [] ?_ | refine mxq0 [] ?_ | fail); (simp only [go_sem]))
        (simp only [go_sem, hb])
        have hlen : (t.kids.take (k + 1)).length = k + 1 := by rw [List.length_take]; omega
        have hcap : (k + 1 + 1) * 32 ≤ 140737488355328 := by omega
        (first | refine cdq ?_ (hc := ih (by omega) _ (by have := kid_lt hk1; omega)) | refine cmq ?_ (hc := ih (by omega) _ (by have := kid_lt hk1; omega)) | refine ctq ?_ (hc := ih (by omega) _ (by have := kid_lt hk1; omega))); (simp only [go_sem])
        repeat' (first | (simp only [go_sem, hlen, hcap, hw1]) | (((first | apply sp1 | apply sp2 | apply sp3 | apply sp4 | apply sp5 | apply sp6 | apply sp7) <;> intro hb) <;> (simp only [go_sem, hb, hlen, hcap, hw1])) | ((first | apply wm_done | apply wt_done | apply wg_run | refine fk ?_ ?_) <;> (simp only [go_sem, hlen, hcap, hw1])))
        refine hG (k + 2) _ _ (by omega) (by omega) (hat [0, 1, 2, 5] (hI := ⟨rfl, ?_⟩))
        rw [← tyR_take hk1]
        rfl
      · have hk1 : t.kids.take (k + 1) = t.kids := by have := of_decide_eq_false hb; exact List.take_of_length_le (by omega)
        have hlen : t.kids.length = k + 1 := by have := of_decide_eq_false hb; omega
        rw [hk1]
        (refine hR _ (ret_at [] (by (simp only [go_sem, hlen]); first | done | rfl) (by (simp only [go_sem, hlen]); first | done | rfl) ⟨?_, rfl⟩))
        rw [tyC_eq]
/-- a copy, its uppermost slice its own -/
def OwnTy (t : Ty) (r : AV) (H' : List Blk) : Prop := (t.kids = [] ∧ r = .agg [.sc (.int .i64 t.kind), .sc (.slice none 0 0)] ∧ H' = []) ∨ (0 < t.kids.length ∧ r = .agg [.sc (.int .i64 t.kind), .row 2 0 t.kids.length] ∧ H' = [⟨2, 25, .mut, tyR t.kids⟩])
theorem l1CopyO (n : Nat) (hn : n ≤ 4398046511104) (t : Ty) (h : t.size < n) : ACl Tryz.prog 119 [.agg (tyC t)] [] (OwnTy t) := by
  have ih := l1Copy n hn
  have hl : t.kids.length < 4398046511104 := by have := Ty.length_le_sizes t.kids; cases t; simp only [Ty.size, Ty.kids] at *; omega
  refine acl_in Tryz.func119 rfl isfn_119 (Nat.le_of_ble_eq_true rfl) (fun R hR => ?_); rw [Tryz.results119] at hR; refine wg_run ?_; (simp only [Tryz.f119, go_sem])
  refine wd_for [1, 2, 3, 4] (fun k => [.one (.ptr 2 0 0 0), .one (.ptr 2 1 0 0), .one (.ptr 2 2 0 0), .one (.sc (.int .i64 (k : Nat)))])
    (fun k => [⟨2, 25, .mut, [tyC t]⟩, ⟨2, 25, .mut, [[.sc (.int .i64 0), .sc (.slice none 0 0)]]⟩] ++ (match k with | 0 => [⟨2, 25, .mut, [[.sc (.int .i64 t.kind), .sc (.slice none 0 0)]]⟩] | k + 1 => [⟨2, 25, .mut, [[.sc (.int .i64 t.kind), .row 2 3 (k + 1)]]⟩, ⟨2, 25, .mut, tyR (t.kids.take (k + 1))⟩]))
    (fun k => k ≤ t.kids.length) (fun k => t.kids.length - k) 0 (Nat.zero_le _) (hat [0, 1, 2] (hI := ⟨rfl, rfl⟩)) ?_
  rintro (_ | k) hk G hG
  · refine wg_run ?_
    (simp only [go_sem])
    ((first | apply sp1 | apply sp2 | apply sp3 | apply sp4 | apply sp5 | apply sp6 | apply sp7) <;> intro hb) <;> (simp only [go_sem, hb])
    · have hk1 : 0 < t.kids.length := by have := of_decide_eq_true hb; omega
      ((first | refine mxq6 [] ?_ | refine mxq5 [] ?_ | refine mxq4 [] ?_ | refine mxq3 [] ?_ | refine mxq2 [] ?_ | refine mxq1 [] ?_ | refine mxq0 [] ?_ | fail); (simp only [go_sem]))
      (simp only [go_sem, hb])
      (first | refine cdq ?_ (hc := ih _ (by have := kid_lt hk1; omega)) | refine cmq ?_ (hc := ih _ (by have := kid_lt hk1; omega)) | refine ctq ?_ (hc := ih _ (by have := kid_lt hk1; omega))); (simp only [go_sem])
      repeat' (first | (((first | apply sp1 | apply sp2 | apply sp3 | apply sp4 | apply sp5 | apply sp6 | apply sp7) <;> intro hb) <;> (simp only [go_sem, hb])) | ((first | apply wm_done | apply wt_done | apply wg_run | refine fk ?_ ?_) <;> (simp only [go_sem])))
      refine hG 1 _ _ (by omega) (by omega) (hat [0, 1, 2, 4] (hI := ⟨rfl, ?_⟩))
      simp only [tyR_take hk1, List.take_zero, tyR, List.nil_append, List.cons_append]
    · have hk1 : t.kids = [] := by have := of_decide_eq_false hb; exact List.eq_nil_of_length_eq_zero (by omega)
      exact hR _ (rwn [] (hK := (.inl ⟨hk1, rfl, rfl⟩)))
  · refine wg_run ?_
    have hw1 : k + 1 < t.kids.length → IntKind.i64.wrap (((k + 1 : Nat) : Int) + 1) = ((k + 1 + 1 : Nat) : Int) := fun h => wrap_succ h (by omega)
    (simp only [go_sem])
    ((first | apply sp1 | apply sp2 | apply sp3 | apply sp4 | apply sp5 | apply sp6 | apply sp7) <;> intro hb) <;> (simp only [go_sem, hb])
    · have hk1 : k + 1 < t.kids.length := by have := of_decide_eq_true hb; omega
      have hw1 := hw1 hk1
      ((first | refine mxq6 [] ?_ | refine mxq5 [] ?_ | refine mxq4 [] ?_ | refine mxq3 [] ?_ | refine mxq2 [] ?_ | refine mxq1 [] ?_ | refine mxq0 [] ?_ | fail); (simp only [go_sem]))
      (simp only [go_sem, hb])
      have hlen : (t.kids.take (k + 1)).length = k + 1 := by rw [List.length_take]; omega
      have hcap : (k + 1 + 1) * 32 ≤ 140737488355328 := by omega
      (first | refine cdq ?_ (hc := ih _ (by have := kid_lt hk1; omega)) | refine cmq ?_ (hc := ih _ (by have := kid_lt hk1; omega)) | refine ctq ?_ (hc := ih _ (by have := kid_lt hk1; omega))); (simp only [go_sem])
      repeat' (first | (simp only [go_sem, hlen, hcap, hw1]) | (((first | apply sp1 | apply sp2 | apply sp3 | apply sp4 | apply sp5 | apply sp6 | apply sp7) <;> intro hb) <;> (simp only [go_sem, hb, hlen, hcap, hw1])) | ((first | apply wm_done | apply wt_done | apply wg_run | refine fk ?_ ?_) <;> (simp only [go_sem, hlen, hcap, hw1])))
      refine hG (k + 2) _ _ (by omega) (by omega) (hat [0, 1, 2, 5] (hI := ⟨rfl, ?_⟩))
      rw [← tyR_take hk1]
      rfl
    · have hk1 : t.kids.take (k + 1) = t.kids := by have := of_decide_eq_false hb; exact List.take_of_length_le (by omega)
      have hlen : t.kids.length = k + 1 := by have := of_decide_eq_false hb; omega
      rw [hk1]
      exact hR _ (ret_own [3] (by (simp only [go_sem, hlen]); first | done | rfl) (by (simp only [go_sem, hlen]); first | done | rfl) (.inr ⟨by omega, by rw [hlen], rfl⟩))
end Go.Proofs.YtnaebafafhamjaaGreat
/- The reference's draws of types, on shadows. -/
namespace Go.Proofs.YtnaebafafhamjaaGreat
open Go.RowKit Go.Proofs.Sh Go.Proofs.Grad
set_option maxRecDepth 100000
set_option maxHeartbeats 4000000
/-- a draw: of a type of depth at most d, at a cost of at most c -/
def DrawsT (bs : List Int) (p c d : Nat) (r : AV) (H' : List Blk) : Prop := ∃ (x : T) (p' : Nat), r = .agg (tyC x.ty) ∧ x.depth ≤ d ∧ p' ≤ p + c ∧ H' = [(⟨2, 115, .mut, [[.sl (byR bs), .sc (.int .i64 ((p' : Nat) : Int))]]⟩ : Blk)]
theorem l1Draw1 (bs : List Int) (hB : Bs bs) (p : Nat) (hp : p < 1099511627776) : ACl Tryz.prog 150 [.one (.ptr 2 0 0 0), .one (.sc (.int .i64 1))] [(⟨2, 115, .mut, [[.sl (byR bs), .sc (.int .i64 ((p : Nat) : Int))]]⟩ : Blk)] (DrawsT bs p 2 1) := by
  have hk := num bs hB p hp [2, 1, 4, 3, 5, 2, 4] (by decide) (by decide)
  refine acl_in Tryz.func150 rfl isfn_150 (Nat.le_of_ble_eq_true rfl) (fun R hR => ?_); rw [Tryz.results150] at hR; refine wg_run ?_; (simp only [Tryz.f150, go_sem])
  refine wd_cl [0] (by (simp only [go_sem]); first | done | rfl) hk ?_
  clear hk
  rintro _ _ ⟨z, rfl, hz, rfl⟩
  simp only [List.mem_cons, List.not_mem_nil, or_false] at hz
  rcases hz with rfl | rfl | rfl | rfl | rfl | rfl | rfl
  all_goals
    (simp only [go_sem])
    repeat' (first | (first | (((first | apply sp1 | apply sp2 | apply sp3 | apply sp4 | apply sp5 | apply sp6 | apply sp7) <;> intro hb) <;> (simp only [go_sem, hb])) | ((first | apply wm_done | apply wt_done | apply wg_run | refine fk ?_ ?_) <;> (simp only [go_sem]))) | (first | refine cdq ?_ (hc := l1Kids _) | refine cmq ?_ (hc := l1Kids _) | refine ctq ?_ (hc := l1Kids _)); (simp only [go_sem]) | (first | (refine wl_next (wg_run ?_); (simp only [go_sem])) | refine wd_rounds 6 ?_) | ((first | refine mxq6 [0] ?_ | refine mxq5 [0] ?_ | refine mxq4 [0] ?_ | refine mxq3 [0] ?_ | refine mxq2 [0] ?_ | refine mxq1 [0] ?_ | refine mxq0 [0] ?_ | fail); (simp only [go_sem])))
    first
      | exact hR _ (rat [] (hK := ⟨.any, p + 1, rfl, by decide, by omega, rfl⟩))
      | exact hR _ (rat [] (hK := ⟨.int, p + 1, rfl, by decide, by omega, rfl⟩))
      | exact hR _ (rat [] (hK := ⟨.bool, p + 1, rfl, by decide, by omega, rfl⟩))
theorem l1DrawN (bs : List Int) (hB : Bs bs) (d c : Nat) (hd : 1 ≤ d) (hd4 : d ≤ 4) (M : Nat) (hM : M + c + 2 ≤ 1099511627776) (ih : ∀ p, p < M + c + 2 → ACl Tryz.prog 150 [.one (.ptr 2 0 0 0), .one (.sc (.int .i64 (d : Nat)))] [(⟨2, 115, .mut, [[.sl (byR bs), .sc (.int .i64 ((p : Nat) : Int))]]⟩ : Blk)] (DrawsT bs p c d)) :
    ∀ p, p < M → ACl Tryz.prog 150 [.one (.ptr 2 0 0 0), .one (.sc (.int .i64 ((d + 1 : Nat) : Int)))] [(⟨2, 115, .mut, [[.sl (byR bs), .sc (.int .i64 ((p : Nat) : Int))]]⟩ : Blk)] (DrawsT bs p (1 + 2 * c) (d + 1)) := by
  intro p hp
  have hd2 : decide (((d + 1 : Nat) : Int) < 2) = false := by simp; omega
  have hw : IntKind.i64.wrap (((d + 1 : Nat) : Int) - 1) = (d : Int) := by rw [IntWalk.i64_in _ (by omega)]; omega
  have hk := num bs hB p (by omega) [2, 1, 4, 3, 5, 2, 4] (by decide) (by decide)
  refine acl_in Tryz.func150 rfl isfn_150 (Nat.le_of_ble_eq_true rfl) (fun R hR => ?_); rw [Tryz.results150] at hR; refine wg_run ?_; (simp only [Tryz.f150, go_sem])
  refine wd_cl [0] (by (simp only [go_sem]); first | done | rfl) hk ?_
  clear hk
  rintro _ _ ⟨z, rfl, hz, rfl⟩
  simp only [List.mem_cons, List.not_mem_nil, or_false] at hz
  rcases hz with rfl | rfl | rfl | rfl | rfl | rfl | rfl
  all_goals
    (simp only [go_sem, hd2])
    repeat' (first | (first | (((first | apply sp1 | apply sp2 | apply sp3 | apply sp4 | apply sp5 | apply sp6 | apply sp7) <;> intro hb) <;> (simp only [go_sem, hb])) | ((first | apply wm_done | apply wt_done | apply wg_run | refine fk ?_ ?_) <;> (simp only [go_sem]))) | (first | refine cdq ?_ (hc := l1Kids _) | refine cmq ?_ (hc := l1Kids _) | refine ctq ?_ (hc := l1Kids _)); (simp only [go_sem]) | (first | (refine wl_next (wg_run ?_); (simp only [go_sem])) | refine wd_rounds 6 ?_) | ((first | refine mxq6 [0] ?_ | refine mxq5 [0] ?_ | refine mxq4 [0] ?_ | refine mxq3 [0] ?_ | refine mxq2 [0] ?_ | refine mxq1 [0] ?_ | refine mxq0 [0] ?_ | fail); (simp only [go_sem])))
  all_goals
    first
      | exact hR _ (rat [] (hK := ⟨.any, p + 1, rfl, by simp [T.depth], by omega, rfl⟩))
      | exact hR _ (rat [] (hK := ⟨.int, p + 1, rfl, by simp [T.depth], by omega, rfl⟩))
      | exact hR _ (rat [] (hK := ⟨.bool, p + 1, rfl, by simp [T.depth], by omega, rfl⟩))
      | skip
  all_goals
    (simp only [go_sem, hw])
    ((first | refine kdq [0] ?_ (hc := ih _ (by omega)) | refine kmq [0] ?_ (hc := ih _ (by omega)) | refine ktq [0] ?_ (hc := ih _ (by omega))); rintro _ _ ⟨x1, p1, rfl, hx1, hp1, rfl⟩; (simp only [go_sem]))
    repeat' (first | (first | (((first | apply sp1 | apply sp2 | apply sp3 | apply sp4 | apply sp5 | apply sp6 | apply sp7) <;> intro hb) <;> (simp only [go_sem, hb])) | ((first | apply wm_done | apply wt_done | apply wg_run | refine fk ?_ ?_) <;> (simp only [go_sem]))) | (first | refine cdq ?_ (hc := l1Kids _) | refine cmq ?_ (hc := l1Kids _) | refine ctq ?_ (hc := l1Kids _)); (simp only [go_sem]) | (first | (refine wl_next (wg_run ?_); (simp only [go_sem])) | refine wd_rounds 6 ?_) | ((first | refine mxq6 [0] ?_ | refine mxq5 [0] ?_ | refine mxq4 [0] ?_ | refine mxq3 [0] ?_ | refine mxq2 [0] ?_ | refine mxq1 [0] ?_ | refine mxq0 [0] ?_ | fail); (simp only [go_sem])))
    (simp only [go_sem, hw])
    ((first | refine kdq [0] ?_ (hc := ih _ (by omega)) | refine kmq [0] ?_ (hc := ih _ (by omega)) | refine ktq [0] ?_ (hc := ih _ (by omega))); rintro _ _ ⟨x2, p2, rfl, hx2, hp2, rfl⟩; (simp only [go_sem]))
    repeat' (first | (first | (((first | apply sp1 | apply sp2 | apply sp3 | apply sp4 | apply sp5 | apply sp6 | apply sp7) <;> intro hb) <;> (simp only [go_sem, hb])) | ((first | apply wm_done | apply wt_done | apply wg_run | refine fk ?_ ?_) <;> (simp only [go_sem]))) | (first | refine cdq ?_ (hc := l1Kids _) | refine cmq ?_ (hc := l1Kids _) | refine ctq ?_ (hc := l1Kids _)); (simp only [go_sem]) | (first | (refine wl_next (wg_run ?_); (simp only [go_sem])) | refine wd_rounds 6 ?_) | ((first | refine mxq6 [0] ?_ | refine mxq5 [0] ?_ | refine mxq4 [0] ?_ | refine mxq3 [0] ?_ | refine mxq2 [0] ?_ | refine mxq1 [0] ?_ | refine mxq0 [0] ?_ | fail); (simp only [go_sem])))
    first
      | exact hR _ (rat [] (hK := ⟨.fn x1 x2, p2, rfl, by simp only [T.depth]; omega, by omega, rfl⟩))
      | exact hR _ (rat [] (hK := ⟨.pr x1 x2, p2, rfl, by simp only [T.depth]; omega, by omega, rfl⟩))
theorem DrawsT.mono {bs : List Int} {p c d c' d' : Nat} {r : AV} {H' : List Blk} (h : DrawsT bs p c d r H') (hc : c ≤ c') (hd : d ≤ d') : DrawsT bs p c' d' r H' := by
  obtain ⟨x, p', h1, h2, h3, h4⟩ := h
  exact ⟨x, p', h1, by omega, by omega, h4⟩
/-- a draw of a type of depth at most d costs at most 23 -/
theorem l1Draw (bs : List Int) (hB : Bs bs) (d : Nat) (hd : 1 ≤ d) (hd4 : d ≤ 4) (p : Nat) (hp : p < 1000000000) : ACl Tryz.prog 150 [.one (.ptr 2 0 0 0), .one (.sc (.int .i64 (d : Nat)))] [(⟨2, 115, .mut, [[.sl (byR bs), .sc (.int .i64 ((p : Nat) : Int))]]⟩ : Blk)] (DrawsT bs p 23 d) := by
  have h1 : ∀ p, p < 1000001000 → ACl Tryz.prog 150 [.one (.ptr 2 0 0 0), .one (.sc (.int .i64 ((1 : Nat) : Int)))] [(⟨2, 115, .mut, [[.sl (byR bs), .sc (.int .i64 ((p : Nat) : Int))]]⟩ : Blk)] (DrawsT bs p 2 1) := fun p hp => l1Draw1 bs hB p (by omega)
  have h2 := l1DrawN bs hB 1 2 (by omega) (by omega) 1000000900 (by omega) (fun p hp => h1 p (by omega))
  have h3 := l1DrawN bs hB 2 5 (by omega) (by omega) 1000000800 (by omega) (fun p hp => h2 p (by omega))
  have h4 := l1DrawN bs hB 3 11 (by omega) (by omega) 1000000000 (by omega) (fun p hp => h3 p (by omega))
  obtain rfl | rfl | rfl | rfl : d = 1 ∨ d = 2 ∨ d = 3 ∨ d = 4 := by omega
  · exact (h1 p (by omega)).mono fun r H' h => h.mono (by omega) (by omega)
  · exact (h2 p (by omega)).mono fun r H' h => h.mono (by omega) (by omega)
  · exact (h3 p (by omega)).mono fun r H' h => h.mono (by omega) (by omega)
  · exact (h4 p hp).mono fun r H' h => h.mono (by omega) (by omega)
theorem l1Type (bs : List Int) (hB : Bs bs) (p : Nat) (hp : p < 999999000) : ACl Tryz.prog 104 [.one (.ptr 2 0 0 0)] [(⟨2, 115, .mut, [[.sl (byR bs), .sc (.int .i64 ((p : Nat) : Int))]]⟩ : Blk)] (DrawsT bs p 24 4) := by
  have hk := num bs hB p (by omega) [3, 2, 4, 1, 3] (by decide) (by decide)
  have hd : ∀ d : Nat, 1 ≤ d → d ≤ 4 → ∀ p, p < 1000000000 → ACl Tryz.prog 150 [.one (.ptr 2 0 0 0), .one (.sc (.int .i64 (d : Nat)))] [(⟨2, 115, .mut, [[.sl (byR bs), .sc (.int .i64 ((p : Nat) : Int))]]⟩ : Blk)] (DrawsT bs p 23 d) := fun d h1 h2 p hp => l1Draw bs hB d h1 h2 p hp
  refine acl_in Tryz.func104 rfl isfn_104 (Nat.le_of_ble_eq_true rfl) (fun R hR => ?_); rw [Tryz.results104] at hR; refine wg_run ?_; (simp only [Tryz.f104, go_sem])
  ((first | refine kdq [0] ?_ (hc := hk) | refine kmq [0] ?_ (hc := hk) | refine ktq [0] ?_ (hc := hk)); rintro _ _ ⟨z, rfl, hz, rfl⟩; (simp only [go_sem]))
  simp only [List.mem_cons, List.not_mem_nil, or_false] at hz
  obtain ⟨d, rfl, hd1, hd4⟩ : ∃ d : Nat, z = (d : Int) ∧ 1 ≤ d ∧ d ≤ 4 := ⟨z.toNat, by omega, by omega, by omega⟩
  ((first | refine kdq [0] ?_ (hc := hd d hd1 hd4 (p + 1) (by omega)) | refine kmq [0] ?_ (hc := hd d hd1 hd4 (p + 1) (by omega)) | refine ktq [0] ?_ (hc := hd d hd1 hd4 (p + 1) (by omega))); rintro _ _ ⟨x1, p1, rfl, hx1, hp1, rfl⟩; (simp only [go_sem]))
  exact hR _ (rat [] (hK := ⟨x1, p1, rfl, by omega, by omega, rfl⟩))
theorem tys (d : Nat) (x : T) (h : x.depth ≤ d) : x.size < 2 ^ d := by
  induction x generalizing d with
  | any | int | bool => simp only [T.depth, T.size] at *; exact Nat.one_lt_two_pow (by omega)
  | fn a b iha ihb | pr a b iha ihb =>
    simp only [T.depth, T.size] at *
    obtain ⟨d, rfl⟩ : ∃ e, d = e + 1 := ⟨d - 1, by omega⟩
    have := iha d (by omega); have := ihb d (by omega)
    rw [Nat.pow_succ]; omega
theorem sizes_append (l m : List Ty) : Ty.sizes (l ++ m) = Ty.sizes l + Ty.sizes m := by
  induction l with
  | nil => simp [Ty.sizes]
  | cons x l ih => simp only [List.cons_append, Ty.sizes, ih]; omega
/-- a draw of some type, not too large -/
def DrawsY (bs : List Int) (p c n : Nat) (r : AV) (H' : List Blk) : Prop := ∃ (x : Ty) (p' : Nat), r = .agg (tyC x) ∧ x.size ≤ n ∧ p' ≤ p + c ∧ H' = [(⟨2, 115, .mut, [[.sl (byR bs), .sc (.int .i64 ((p' : Nat) : Int))]]⟩ : Blk)]
theorem l1Mutate (bs : List Int) (hB : Bs bs) (p : Nat) (hp : p < 999999000) (t : Ty) (ht : t.size < 1000000) : ACl Tryz.prog 103 [.one (.ptr 2 0 0 0), .agg (tyC t)] [(⟨2, 115, .mut, [[.sl (byR bs), .sc (.int .i64 ((p : Nat) : Int))]]⟩ : Blk)] (DrawsY bs p 2 (t.size + 8)) := by
  have hc := l1CopyO 1000000 (by omega) t ht
  have hk := pick bs hB p (by omega) 40 (by omega) (by omega)
  have hl : t.kids.length < 1000000 := by have := Ty.length_le_sizes t.kids; cases t; simp only [Ty.size, Ty.kids] at *; omega
  have hn := num bs hB (p + 1) (by omega) [0, 6, 1, 4, -1] (by decide) (by decide)
  have hcap : (t.kids.length + 1) * 32 ≤ 140737488355328 := by omega
  obtain ⟨k, l⟩ := t
  simp only [Ty.kids, Ty.kind] at hl hcap
  refine acl_in Tryz.func103 rfl isfn_103 (Nat.le_of_ble_eq_true rfl) (fun R hR => ?_); rw [Tryz.results103] at hR; refine wg_run ?_; (simp only [Tryz.f103, go_sem])
  ((first | refine kdq [] ?_ (hc := hc) | refine kmq [] ?_ (hc := hc) | refine ktq [] ?_ (hc := hc)); rintro _ _ (⟨hk0, rfl, rfl⟩ | ⟨hk0, rfl, rfl⟩) <;> (simp only [go_sem]))
  · simp only [Ty.kids] at hk0
    subst hk0
    ((first | refine kdq [0] ?_ (hc := hk) | refine kmq [0] ?_ (hc := hk) | refine ktq [0] ?_ (hc := hk)); rintro _ _ ⟨z, rfl, hz, hz1, rfl⟩; (simp only [go_sem]))
    repeat' (first | (((first | apply sp1 | apply sp2 | apply sp3 | apply sp4 | apply sp5 | apply sp6 | apply sp7) <;> intro hb) <;> (simp only [go_sem, hb])) | ((first | apply wm_done | apply wt_done | apply wg_run | refine fk ?_ ?_) <;> (simp only [go_sem])))
    · ((first | refine kdq [0] ?_ (hc := hn) | refine kmq [0] ?_ (hc := hn) | refine ktq [0] ?_ (hc := hn)); rintro _ _ ⟨y, rfl, hy, rfl⟩; (simp only [go_sem]))
      exact hR _ (rat [] (hK := ⟨.mk y [], p + 2, rfl, by simp [Ty.size, Ty.sizes], by omega, rfl⟩))
    · ((first | refine mxq6 [0] ?_ | refine mxq5 [0] ?_ | refine mxq4 [0] ?_ | refine mxq3 [0] ?_ | refine mxq2 [0] ?_ | refine mxq1 [0] ?_ | refine mxq0 [0] ?_ | fail); (simp only [go_sem]))
      repeat' (first | (first | (((first | apply sp1 | apply sp2 | apply sp3 | apply sp4 | apply sp5 | apply sp6 | apply sp7) <;> intro hb) <;> (simp only [go_sem, hb])) | ((first | apply wm_done | apply wt_done | apply wg_run | refine fk ?_ ?_) <;> (simp only [go_sem]))) | (first | refine cdq ?_ (hc := l1Any) | refine cmq ?_ (hc := l1Any) | refine ctq ?_ (hc := l1Any)); (simp only [go_sem]))
      exact hR _ (rat [] (hK := ⟨.mk k [.mk 1 []], p + 1, rfl, by simp [Ty.size, Ty.sizes], by omega, rfl⟩))
    · repeat' (first | (first | (((first | apply sp1 | apply sp2 | apply sp3 | apply sp4 | apply sp5 | apply sp6 | apply sp7) <;> intro hb) <;> (simp only [go_sem, hb])) | ((first | apply wm_done | apply wt_done | apply wg_run | refine fk ?_ ?_) <;> (simp only [go_sem]))) | (first | (refine wl_next (wg_run ?_); (simp only [go_sem])) | refine wd_rounds 6 ?_) | (first | refine cdq ?_ (hc := l1Any) | refine cmq ?_ (hc := l1Any) | refine ctq ?_ (hc := l1Any)); (simp only [go_sem]) | ((first | refine mxq6 [0] ?_ | refine mxq5 [0] ?_ | refine mxq4 [0] ?_ | refine mxq3 [0] ?_ | refine mxq2 [0] ?_ | refine mxq1 [0] ?_ | refine mxq0 [0] ?_ | fail); (simp only [go_sem])))
      exact hR _ (rat [] (hK := ⟨.mk 4 [.mk 1 [], .mk 4 [.mk 1 [], .mk 4 [.mk 1 [], .mk 4 [.mk 1 [], .mk k []]]]], p + 1, rfl, by simp [Ty.size, Ty.sizes], by omega, rfl⟩))
    · exact hR _ (rat [] (hK := ⟨.mk k [], p + 1, rfl, by simp [Ty.size, Ty.sizes], by omega, rfl⟩))
  · simp only [Ty.kids] at hk0
    ((first | refine kdq [0] ?_ (hc := hk) | refine kmq [0] ?_ (hc := hk) | refine ktq [0] ?_ (hc := hk)); rintro _ _ ⟨z, rfl, hz, hz1, rfl⟩; (simp only [go_sem]))
    repeat' (first | (((first | apply sp1 | apply sp2 | apply sp3 | apply sp4 | apply sp5 | apply sp6 | apply sp7) <;> intro hb) <;> (simp only [go_sem, hb])) | ((first | apply wm_done | apply wt_done | apply wg_run | refine fk ?_ ?_) <;> (simp only [go_sem])))
    · ((first | refine kdq [0] ?_ (hc := hn) | refine kmq [0] ?_ (hc := hn) | refine ktq [0] ?_ (hc := hn)); rintro _ _ ⟨y, rfl, hy, rfl⟩; (simp only [go_sem]))
      exact hR _ (rat [] (hK := ⟨.mk y l, p + 2, rfl, by simp [Ty.size, Ty.sizes], by omega, rfl⟩))
    · ((first | refine mxq6 [0] ?_ | refine mxq5 [0] ?_ | refine mxq4 [0] ?_ | refine mxq3 [0] ?_ | refine mxq2 [0] ?_ | refine mxq1 [0] ?_ | refine mxq0 [0] ?_ | fail); (simp only [go_sem]))
      repeat' (first | (first | (simp only [go_sem, hcap]) | (((first | apply sp1 | apply sp2 | apply sp3 | apply sp4 | apply sp5 | apply sp6 | apply sp7) <;> intro hb) <;> (simp only [go_sem, hb, hcap])) | ((first | apply wm_done | apply wt_done | apply wg_run | refine fk ?_ ?_) <;> (simp only [go_sem, hcap]))) | (first | refine cdq ?_ (hc := l1Any) | refine cmq ?_ (hc := l1Any) | refine ctq ?_ (hc := l1Any)); (simp only [go_sem]))
      refine hR _ (rat [] (hK := ⟨Ty.mk k (l ++ [Ty.mk 1 []]), p + 1, ?_, ?_, by omega, rfl⟩))
      · rw [tyC_eq (Ty.mk k (l ++ [Ty.mk 1 []])), kind_mk, kids_mk, tyR_append]; rfl
      · simp only [Ty.size, sizes_append, Ty.sizes]; omega
    · repeat' (first | (first | (((first | apply sp1 | apply sp2 | apply sp3 | apply sp4 | apply sp5 | apply sp6 | apply sp7) <;> intro hb) <;> (simp only [go_sem, hb])) | ((first | apply wm_done | apply wt_done | apply wg_run | refine fk ?_ ?_) <;> (simp only [go_sem]))) | (first | (refine wl_next (wg_run ?_); (simp only [go_sem])) | refine wd_rounds 6 ?_) | (first | refine cdq ?_ (hc := l1Any) | refine cmq ?_ (hc := l1Any) | refine ctq ?_ (hc := l1Any)); (simp only [go_sem]) | ((first | refine mxq6 [0] ?_ | refine mxq5 [0] ?_ | refine mxq4 [0] ?_ | refine mxq3 [0] ?_ | refine mxq2 [0] ?_ | refine mxq1 [0] ?_ | refine mxq0 [0] ?_ | fail); (simp only [go_sem])))
      exact hR _ (rat [] (hK := ⟨.mk 4 [.mk 1 [], .mk 4 [.mk 1 [], .mk 4 [.mk 1 [], .mk 4 [.mk 1 [], .mk k l]]]], p + 1, rfl, by simp [Ty.size, Ty.sizes]; omega, by omega, rfl⟩))
    · exact hR _ (rat [] (hK := ⟨.mk k l, p + 1, rfl, by simp [Ty.size, Ty.sizes], by omega, rfl⟩))
end Go.Proofs.YtnaebafafhamjaaGreat
/- The reference's draws of types near a type, and of pairs, on shadows. -/
namespace Go.Proofs.YtnaebafafhamjaaGreat
open Go.RowKit Go.Proofs.Sh Go.Proofs.Grad
set_option maxRecDepth 100000
set_option maxHeartbeats 4000000
/-- a code -/
structure Code8 (l : List Int) : Prop where
  len : l.length < 4611686018427387904
  all : ∀ k, 0 ≤ byte l k ∧ byte l k < 256
end Go.Proofs.YtnaebafafhamjaaGreat
/- The reference's draw of a type that is consistent with a type, on shadows. -/
namespace Go.Proofs.Grad
end Go.Proofs.Grad
namespace Go.Proofs.YtnaebafafhamjaaGreat
open Go.RowKit Go.Proofs.Sh Go.Proofs.Grad
set_option maxRecDepth 100000
set_option maxHeartbeats 4000000
end Go.Proofs.YtnaebafafhamjaaGreat
/- The reference's draws of coercions, on shadows. -/
namespace Go.Proofs.YtnaebafafhamjaaGreat
open Go.RowKit Go.Proofs.Sh Go.Proofs.Grad
set_option maxRecDepth 100000
set_option maxHeartbeats 8000000
end Go.Proofs.YtnaebafafhamjaaGreat
/- The reference's draws of coercions, sometimes made invalid. On shadows. -/
namespace Go.Proofs.Grad
theorem Co.length_le_sizes (l : List Co) : l.length ≤ Co.sizes l := by
  induction l with
  | nil => simp
  | cons x l ih => cases x; simp only [List.length_cons, Co.sizes, Co.size]; omega
end Go.Proofs.Grad
namespace Go.Proofs.YtnaebafafhamjaaGreat
open Go.RowKit Go.Proofs.Sh Go.Proofs.Grad
set_option maxRecDepth 100000
set_option maxHeartbeats 8000000
end Go.Proofs.YtnaebafafhamjaaGreat
/- The reference's draw of one coercion. On shadows. -/
namespace Go.Proofs.YtnaebafafhamjaaGreat
open Go.RowKit Go.Proofs.Sh Go.Proofs.Grad
set_option maxRecDepth 100000
set_option maxHeartbeats 8000000
end Go.Proofs.YtnaebafafhamjaaGreat
/- The reference's draws of one coercion and of three. On shadows. -/
namespace Go.Proofs.YtnaebafafhamjaaGreat
open Go.RowKit Go.Proofs.Sh Go.Proofs.Grad
set_option maxRecDepth 100000
set_option maxHeartbeats 8000000
end Go.Proofs.YtnaebafafhamjaaGreat
/- The reference's draws of less precise types, and of consistent ones, on shadows. -/
namespace Go.Proofs.YtnaebafafhamjaaGreat
open Go.RowKit Go.Proofs.Sh Go.Proofs.Grad
set_option maxRecDepth 100000
set_option maxHeartbeats 4000000
end Go.Proofs.YtnaebafafhamjaaGreat
