/- Texts of the proof, one behind another. -/
import Derived.IntWalk
import Derived.Laws.BitsAllLaws
import Derived.Test.YtnaebafafhamjaaKX8
import Derived.Test.YtnaebafafhamjaaKX9
import Derived.Test.YtnaebafafhamjaaKX10
import Derived.Test.YtnaebafafhamjaaKX11
import Derived.Test.YtnaebafafhamjaaKX12
set_option linter.unusedSimpArgs false
set_option linter.unusedVariables false
/- The reference's reader, on shadows. -/
namespace Go.Proofs.Sh
open Go.RowKit
def byC (x : Int) : List C := [.sc (.int .u8 x)]
def byR (l : List Int) : List (List C) := l.map byC
def byte (l : List Int) (k : Nat) : Int := l.getD k 0
@[go_sem] theorem byC_length (x : Int) : (byC x).length = 1 := rfl
@[go_sem] theorem byC_0 (x : Int) : (byC x)[0]? = some (.sc (.int .u8 x)) := rfl
@[go_sem] theorem byR_length (l : List Int) : (byR l).length = l.length := by simp [byR]
@[go_sem] theorem byR_at (l : List Int) (i : Nat) : (byR l)[i]? = match decide ((i : Int) < (l.length : Int)) with | true => some (byC (byte l i)) | false => none := by
  by_cases h : i < l.length
  · have h' : (i : Int) < (l.length : Int) := by omega
    simp [byR, byte, h, h']
  · have h' : ¬ (i : Int) < (l.length : Int) := by omega
    simp [byR, h, h']
@[go_sem] theorem byR_tree (l : List Int) : treeRows (byR l) = true := by
  simp [byR, treeRows, treeL, byC, C.tree]
@[go_sem] theorem byR_len (l : List Int) : rowsLen 1 (byR l) = true := by
  simp [byR, rowsLen, byC]
theorem byR_take (l : List Int) (n : Nat) : (byR l).take n = byR (l.take n) := by simp [byR, List.map_take]
/-- bytes -/
structure Bs (l : List Int) : Prop where
  len : l.length ≤ 2000
  all : ∀ k, 0 ≤ byte l k ∧ byte l k < 256
theorem i64_xor' (a b : Nat) (ha : a < 9223372036854775808) (hb : b < 9223372036854775808) : IntKind.i64.wrap ((BitVec.ofInt 64 (a : Int) ^^^ BitVec.ofInt 64 (b : Int)).toNat : Int) = ((a ^^^ b : Nat) : Int) := by
  have hx : a ^^^ b < 2 ^ 63 := Nat.xor_lt_two_pow (by omega) (by omega)
  rw [BitVec.toNat_xor, ofInt_u64 a (by omega), ofInt_u64 b (by omega), IntKind.wrap_i64]
  omega
end Go.Proofs.Sh
namespace Go.Proofs.Ytnaebafafhamjaa
open Go.RowKit Go.Proofs.Sh
set_option maxRecDepth 100000
set_option maxHeartbeats 4000000
theorem pick (bs : List Int) (hB : Bs bs) (p : Nat) (hp : p < 1099511627776) (n : Int) (hn1 : -1099511627776 ≤ n) (hn2 : n ≤ 1099511627776) :
    ACl Try.prog 31 [.one (.ptr 2 0 0 0), .one (.sc (.int .i64 n))] [(⟨2, 83, .mut, [[.sl (byR bs), .sc (.int .i64 ((p : Nat) : Int))]]⟩ : Blk)] (fun r H' => ∃ z : Int, r = .one (.sc (.int .i64 z)) ∧ 0 ≤ z ∧ (z < n ∨ z = 0) ∧ H' = [(⟨2, 83, .mut, [[.sl (byR bs), .sc (.int .i64 ((p + 1 : Nat) : Int))]]⟩ : Blk)]) := by
  have wq : IntKind.i64.wrap ((p : Int) + 1) = ((p + 1 : Nat) : Int) := by rw [IntWalk.i64_in _ (by omega)]; omega
  have wr : IntKind.i64.wrap (((p + 1 : Nat) : Int) - 1) = (p : Int) := by rw [IntWalk.i64_in _ (by omega)]; omega
  by_cases hz : n < 1
  · have hd : decide (n < 1) = true := by simp [hz]
    refine acl_in Try.func31 rfl isfn_31 (Nat.le_of_ble_eq_true rfl) (fun R hR => ?_); rw [Try.results31] at hR; refine wg_run ?_; (simp only [Try.f31, go_sem, hd, wq])
    exact hR _ (rat [] (hK := ⟨0, rfl, Int.le_refl _, .inr rfl, rfl⟩))
  · have hd : decide (n < 1) = false := by simp; omega
    have hl := hB.len
    by_cases hm : bs.length = 0
    · have hm1 : (((bs.length : Nat) : Int) == 0) = true := by simp [hm]
      refine acl_in Try.func31 rfl isfn_31 (Nat.le_of_ble_eq_true rfl) (fun R hR => ?_); rw [Try.results31] at hR; refine wg_run ?_; (simp only [Try.f31, go_sem, hd, wq, hm1])
      exact hR _ (rat [] (hK := ⟨0, rfl, Int.le_refl _, .inr rfl, rfl⟩))
    · have hm1 : (((bs.length : Nat) : Int) == 0) = false := by rw [beq_eq_false_iff_ne]; omega
      have hn0 : decide (n = 0) = false := by simp; omega
      have hn00 : (n == 0) = false := by simp; omega
      by_cases hpl : p < bs.length
      · have hpp : decide ((p : Int) < (bs.length : Int)) = true := by simp; omega
        have hb := hB.all p
        have wx : IntKind.i64.wrap (byte bs p) = byte bs p := IntWalk.i64_in _ (by omega)
        have hrem : 0 ≤ (byte bs p).tmod n ∧ (byte bs p).tmod n < n := ⟨Int.tmod_nonneg _ hb.1, Int.tmod_lt_of_pos _ (by omega)⟩
        refine acl_in Try.func31 rfl isfn_31 (Nat.le_of_ble_eq_true rfl) (fun R hR => ?_); rw [Try.results31] at hR; refine wg_run ?_; (simp only [Try.f31, go_sem, hd, wq, hm1, wr, hpp, wx, hn0])
        exact hR _ (rat [] (hK := ⟨_, rfl, hrem.1, .inl hrem.2, rfl⟩))
      · have hpp : decide ((p : Int) < (bs.length : Int)) = false := by simp; omega
        have hm0 : decide (((bs.length : Nat) : Int) = 0) = false := by rw [decide_eq_false_iff_not]; omega
        have hx := hB.all (p % bs.length)
        have hy := hB.all ((p * 7 + 3) % bs.length)
        have t1 : (p : Int).tmod (bs.length : Int) = ((p % bs.length : Nat) : Int) := by rw [Int.tmod_eq_emod_of_nonneg (by omega)]; simp
        have t2 : ((p : Int) * 7 + 3).tmod (bs.length : Int) = (((p * 7 + 3) % bs.length : Nat) : Int) := by rw [Int.tmod_eq_emod_of_nonneg (by omega)]; simp
        have t3 : (p : Int).tdiv (bs.length : Int) = ((p / bs.length : Nat) : Int) := by rw [Int.tdiv_eq_ediv_of_nonneg (by omega)]; simp
        have g1 : decide (((p % bs.length : Nat) : Int) < (bs.length : Int)) = true := by have := Nat.mod_lt p (show 0 < bs.length by omega); simp only [decide_eq_true_eq]; omega
        have g2 : decide ((((p * 7 + 3) % bs.length : Nat) : Int) < (bs.length : Int)) = true := by have := Nat.mod_lt (p * 7 + 3) (show 0 < bs.length by omega); simp only [decide_eq_true_eq]; omega
        have hdv : p / bs.length ≤ p := Nat.div_le_self _ _
        generalize hxe : byte bs (p % bs.length) = x at *
        generalize hye : byte bs ((p * 7 + 3) % bs.length) = y at *
        generalize hdd : p / bs.length = dd at *
        have w1 : IntKind.i64.wrap ((p : Int) * 7) = (p : Int) * 7 := IntWalk.i64_in _ (by omega)
        have w2 : IntKind.i64.wrap ((p : Int) * 7 + 3) = (p : Int) * 7 + 3 := IntWalk.i64_in _ (by omega)
        have w3 : IntKind.i64.wrap (x * 131) = x * 131 := IntWalk.i64_in _ (by omega)
        have w4 : IntKind.i64.wrap (y * 1117) = y * 1117 := IntWalk.i64_in _ (by omega)
        have w5 : IntKind.i64.wrap (x * 131 + y * 1117) = x * 131 + y * 1117 := IntWalk.i64_in _ (by omega)
        have w6 : IntKind.i64.wrap ((p : Int) * 29) = (p : Int) * 29 := IntWalk.i64_in _ (by omega)
        have w7 : IntKind.i64.wrap (x * 131 + y * 1117 + (p : Int) * 29) = x * 131 + y * 1117 + (p : Int) * 29 := IntWalk.i64_in _ (by omega)
        have w8 : IntKind.i64.wrap ((dd : Int) * 53) = (dd : Int) * 53 := IntWalk.i64_in _ (by omega)
        have w9 : IntKind.i64.wrap (x * 131 + y * 1117 + (p : Int) * 29 + (dd : Int) * 53) = x * 131 + y * 1117 + (p : Int) * 29 + (dd : Int) * 53 := IntWalk.i64_in _ (by omega)
        have wx : IntKind.i64.wrap x = x := IntWalk.i64_in _ (by omega)
        have wy : IntKind.i64.wrap y = y := IntWalk.i64_in _ (by omega)
        have wd : IntKind.i64.wrap (dd : Int) = (dd : Int) := IntWalk.i64_in _ (by omega)
        obtain ⟨s, hs, hs2⟩ : ∃ s : Nat, x * 131 + y * 1117 + (p : Int) * 29 + (dd : Int) * 53 = (s : Int) ∧ s < 4611686018427387904 := ⟨(x * 131 + y * 1117 + (p : Int) * 29 + (dd : Int) * 53).toNat, by omega, by omega⟩
        have t4 : (s : Int).tdiv 64 = ((s / 64 : Nat) : Int) := by rw [Int.tdiv_eq_ediv_of_nonneg (by omega)]; simp
        have w10 : IntKind.i64.wrap ((s / 64 : Nat) : Int) = ((s / 64 : Nat) : Int) := IntWalk.i64_in _ (by omega)
        have w11 : IntKind.i64.wrap (s : Int) = (s : Int) := IntWalk.i64_in _ (by omega)
        have hxo : IntKind.i64.wrap ((BitVec.ofInt 64 (s : Int) ^^^ BitVec.ofInt 64 ((s / 64 : Nat) : Int)).toNat : Int) = ((s ^^^ (s / 64) : Nat) : Int) := i64_xor' s (s / 64) (by omega) (by omega)
        generalize hze : s ^^^ (s / 64) = z at *
        have hrem : 0 ≤ (z : Int).tmod n ∧ (z : Int).tmod n < n := ⟨Int.tmod_nonneg _ (by omega), Int.tmod_lt_of_pos _ (by omega)⟩
        refine acl_in Try.func31 rfl isfn_31 (Nat.le_of_ble_eq_true rfl) (fun R hR => ?_); rw [Try.results31] at hR; refine wg_run ?_; (simp only [Try.f31, go_sem, hd, wq, hm1, wr, hpp])
        refine wd_mix 0 [] follows (by kernel_rfl) (by (simp only [go_sem]); first | done | rfl) ?_
        (simp only [go_sem, hm0, hxe, hye, t1, t2, t3, g1, g2, w1, w2, w3, w4, w5, w6, w7, w8, w9, wx, wy, wd, hs])
        refine wm_done ?_
        (simp only [go_sem, hn0, t4, w10, w11, hxo])
        refine hR _ (rat [] (hK := ⟨_, rfl, ?_, .inl ?_, rfl⟩))
        · have h := hrem.1; rw [← hxo] at h; exact h
        · have h := hrem.2; rw [← hxo] at h; exact h
/-- whole numbers as rows of a slice -/
theorem num (bs : List Int) (hB : Bs bs) (p : Nat) (hp : p < 1099511627776) (l : List Int) (h1 : 0 < l.length) (h2 : l.length < 1000) :
    ACl Try.prog 81 [.one (.ptr 2 0 0 0), .one (.sl (l.map fun x => [.sc (.int .i64 x)]))] [(⟨2, 83, .mut, [[.sl (byR bs), .sc (.int .i64 ((p : Nat) : Int))]]⟩ : Blk)] (fun r H' => ∃ z : Int, r = .one (.sc (.int .i64 z)) ∧ z ∈ l ∧ H' = [(⟨2, 83, .mut, [[.sl (byR bs), .sc (.int .i64 ((p + 1 : Nat) : Int))]]⟩ : Blk)]) := by
  have hk := pick bs hB p hp (l.length : Nat) (by omega) (by omega)
  refine acl_in Try.func81 rfl isfn_81 (Nat.le_of_ble_eq_true rfl) (fun R hR => ?_); rw [Try.results81] at hR; refine wg_run ?_; (simp only [Try.f81, go_sem, List.length_map])
  refine wd_cl [0] (by (simp only [go_sem]); first | done | rfl) hk ?_
  rintro _ _ ⟨z, rfl, hz0, hz1, rfl⟩
  obtain ⟨z, rfl⟩ := Int.eq_ofNat_of_zero_le hz0
  have hz : z < l.length := by omega
  have hm : (l.map fun x => [C.sc (.int .i64 x)])[z]? = some [C.sc (.int .i64 l[z])] := by simp [hz]
  have hz2 : decide ((0 : Int) ≤ (z : Int)) = true := by simp
  (simp only [go_sem, hm, hz2])
  exact hR _ (rat [] (hK := ⟨_, rfl, List.getElem_mem hz, rfl⟩))
theorem ofs (bs : List Int) (hB : Bs bs) (p : Nat) (hp : p < 1099511627776) (l : List ByteArray) (h1 : 0 < l.length) (h2 : l.length < 1000) :
    ACl Try.prog 84 [.one (.ptr 2 0 0 0), .one (.sl (l.map fun x => [.sc (.string x)]))] [(⟨2, 83, .mut, [[.sl (byR bs), .sc (.int .i64 ((p : Nat) : Int))]]⟩ : Blk)] (fun r H' => ∃ z : ByteArray, r = .one (.sc (.string z)) ∧ z ∈ l ∧ H' = [(⟨2, 83, .mut, [[.sl (byR bs), .sc (.int .i64 ((p + 1 : Nat) : Int))]]⟩ : Blk)]) := by
  have hk := pick bs hB p hp (l.length : Nat) (by omega) (by omega)
  refine acl_in Try.func84 rfl isfn_84 (Nat.le_of_ble_eq_true rfl) (fun R hR => ?_); rw [Try.results84] at hR; refine wg_run ?_; (simp only [Try.f84, go_sem, List.length_map])
  refine wd_cl [0] (by (simp only [go_sem]); first | done | rfl) hk ?_
  rintro _ _ ⟨z, rfl, hz0, hz1, rfl⟩
  obtain ⟨z, rfl⟩ := Int.eq_ofNat_of_zero_le hz0
  have hz : z < l.length := by omega
  have hm : (l.map fun x => [C.sc (.string x)])[z]? = some [C.sc (.string l[z])] := by simp [hz]
  have hz2 : decide ((0 : Int) ≤ (z : Int)) = true := by simp
  (simp only [go_sem, hm, hz2])
  exact hR _ (rat [] (hK := ⟨_, rfl, List.getElem_mem hz, rfl⟩))
theorem byte_take (l : List Int) (n k : Nat) : byte (l.take n) k = byte l k ∨ byte (l.take n) k = 0 := by
  unfold byte
  by_cases h : k < n
  · left; simp [List.getD_eq_getElem?_getD, List.getElem?_take, h]
  · right; simp [List.getD_eq_getElem?_getD, List.getElem?_take, h]
theorem opn (l : List Int) (hl : l.length < 4611686018427387904) (hb : ∀ k, 0 ≤ byte l k ∧ byte l k < 256) :
    ACl Try.prog 29 [.one (.sl (byR l))] [] (fun r H' => ∃ bs : List Int, Bs bs ∧ r = .one (.ptr 2 0 0 0) ∧ H' = [(⟨2, 83, .mut, [[.sl (byR bs), .sc (.int .i64 ((0 : Nat) : Int))]]⟩ : Blk)]) := by
  by_cases h : 2000 < l.length
  · have hd : decide (((l.length : Nat) : Int) > 2000) = true := by simp; omega
    have hd2 : decide (2000 ≤ l.length) = true := by simp; omega
    refine acl_in Try.func29 rfl isfn_29 (Nat.le_of_ble_eq_true rfl) (fun R hR => ?_); rw [Try.results29] at hR; refine wg_run ?_; (simp only [Try.f29, go_sem, hd, hd2, byR_take])
    refine hR _ (rat [0] (hK := ⟨l.take 2000, ⟨by simp; omega, fun k => ?_⟩, rfl, ?_⟩))
    · rcases byte_take l 2000 k with h | h <;> rw [h]
      · exact hb k
      · omega
    · simp
  · have hd : decide (((l.length : Nat) : Int) > 2000) = false := by simp; omega
    refine acl_in Try.func29 rfl isfn_29 (Nat.le_of_ble_eq_true rfl) (fun R hR => ?_); rw [Try.results29] at hR; refine wg_run ?_; (simp only [Try.f29, go_sem, hd])
    exact hR _ (rat [0] (hK := ⟨l, ⟨by omega, hb⟩, rfl, rfl⟩))
end Go.Proofs.Ytnaebafafhamjaa
/- The reference's draws of types, on shadows. -/
namespace Go.Proofs.Ytnaebafafhamjaa
open Go.RowKit Go.Proofs.Sh Go.Proofs.Grad
set_option maxRecDepth 100000
set_option maxHeartbeats 4000000
/-- a draw: of a type of depth at most d, at a cost of at most c -/
def DrawsT (bs : List Int) (p c d : Nat) (r : AV) (H' : List Blk) : Prop := ∃ (x : T) (p' : Nat), r = .agg (tyC x.ty) ∧ x.depth ≤ d ∧ p' ≤ p + c ∧ H' = [(⟨2, 83, .mut, [[.sl (byR bs), .sc (.int .i64 ((p' : Nat) : Int))]]⟩ : Blk)]
theorem l1Draw1 (bs : List Int) (hB : Bs bs) (p : Nat) (hp : p < 1099511627776) : ACl Try.prog 80 [.one (.ptr 2 0 0 0), .one (.sc (.int .i64 1))] [(⟨2, 83, .mut, [[.sl (byR bs), .sc (.int .i64 ((p : Nat) : Int))]]⟩ : Blk)] (DrawsT bs p 2 1) := by
  have hk := num bs hB p hp [2, 1, 4, 3, 5, 2, 4] (by decide) (by decide)
  refine acl_in Try.func80 rfl isfn_80 (Nat.le_of_ble_eq_true rfl) (fun R hR => ?_); rw [Try.results80] at hR; refine wg_run ?_; (simp only [Try.f80, go_sem])
  refine wd_cl [0] (by (simp only [go_sem]); first | done | rfl) hk ?_
  clear hk
  rintro _ _ ⟨z, rfl, hz, rfl⟩
  simp only [List.mem_cons, List.not_mem_nil, or_false] at hz
  rcases hz with rfl | rfl | rfl | rfl | rfl | rfl | rfl
  all_goals
    (simp only [go_sem])
    repeat' (first | (first | (((first | apply sp1 | apply sp2 | apply sp3 | apply sp4 | apply sp5 | apply sp6 | apply sp7) <;> intro hb) <;> (simp only [go_sem, hb])) | ((first | apply wm_done | apply wt_done | apply wg_run | refine fk ?_ ?_) <;> (simp only [go_sem]))) | (first | refine cdq ?_ (hc := l1Kids _) | refine cmq ?_ (hc := l1Kids _) | refine ctq ?_ (hc := l1Kids _)); (simp only [go_sem]) | (first | (refine wl_next (wg_run ?_); (simp only [go_sem])) | refine wd_rounds 6 ?_) | ((first | refine mxq6 [0] ?_ | refine mxq5 [0] ?_ | refine mxq4 [0] ?_ | refine mxq3 [0] ?_ | refine mxq2 [0] ?_ | refine mxq1 [0] ?_ | refine mxq0 [0] ?_ | fail); (simp only [go_sem])))
    first
      | exact hR _ (rat [] (hK := ⟨.any, p + 1, rfl, by decide, by omega, rfl⟩))
      | exact hR _ (rat [] (hK := ⟨.int, p + 1, rfl, by decide, by omega, rfl⟩))
      | exact hR _ (rat [] (hK := ⟨.bool, p + 1, rfl, by decide, by omega, rfl⟩))
theorem l1DrawN (bs : List Int) (hB : Bs bs) (d c : Nat) (hd : 1 ≤ d) (hd4 : d ≤ 4) (M : Nat) (hM : M + c + 2 ≤ 1099511627776) (ih : ∀ p, p < M + c + 2 → ACl Try.prog 80 [.one (.ptr 2 0 0 0), .one (.sc (.int .i64 (d : Nat)))] [(⟨2, 83, .mut, [[.sl (byR bs), .sc (.int .i64 ((p : Nat) : Int))]]⟩ : Blk)] (DrawsT bs p c d)) :
    ∀ p, p < M → ACl Try.prog 80 [.one (.ptr 2 0 0 0), .one (.sc (.int .i64 ((d + 1 : Nat) : Int)))] [(⟨2, 83, .mut, [[.sl (byR bs), .sc (.int .i64 ((p : Nat) : Int))]]⟩ : Blk)] (DrawsT bs p (1 + 2 * c) (d + 1)) := by
  intro p hp
  have hd2 : decide (((d + 1 : Nat) : Int) < 2) = false := by simp; omega
  have hw : IntKind.i64.wrap (((d + 1 : Nat) : Int) - 1) = (d : Int) := by rw [IntWalk.i64_in _ (by omega)]; omega
  have hk := num bs hB p (by omega) [2, 1, 4, 3, 5, 2, 4] (by decide) (by decide)
  refine acl_in Try.func80 rfl isfn_80 (Nat.le_of_ble_eq_true rfl) (fun R hR => ?_); rw [Try.results80] at hR; refine wg_run ?_; (simp only [Try.f80, go_sem])
  refine wd_cl [0] (by (simp only [go_sem]); first | done | rfl) hk ?_
  clear hk
  rintro _ _ ⟨z, rfl, hz, rfl⟩
  simp only [List.mem_cons, List.not_mem_nil, or_false] at hz
  rcases hz with rfl | rfl | rfl | rfl | rfl | rfl | rfl
  all_goals
    (simp only [go_sem, hd2])
    repeat' (first | (first | (((first | apply sp1 | apply sp2 | apply sp3 | apply sp4 | apply sp5 | apply sp6 | apply sp7) <;> intro hb) <;> (simp only [go_sem, hb])) | ((first | apply wm_done | apply wt_done | apply wg_run | refine fk ?_ ?_) <;> (simp only [go_sem]))) | (first | refine cdq ?_ (hc := l1Kids _) | refine cmq ?_ (hc := l1Kids _) | refine ctq ?_ (hc := l1Kids _)); (simp only [go_sem]) | (first | (refine wl_next (wg_run ?_); (simp only [go_sem])) | refine wd_rounds 6 ?_) | ((first | refine mxq6 [0] ?_ | refine mxq5 [0] ?_ | refine mxq4 [0] ?_ | refine mxq3 [0] ?_ | refine mxq2 [0] ?_ | refine mxq1 [0] ?_ | refine mxq0 [0] ?_ | fail); (simp only [go_sem])))
  all_goals
    first
      | exact hR _ (rat [] (hK := ⟨.any, p + 1, rfl, by simp [T.depth], by omega, rfl⟩))
      | exact hR _ (rat [] (hK := ⟨.int, p + 1, rfl, by simp [T.depth], by omega, rfl⟩))
      | exact hR _ (rat [] (hK := ⟨.bool, p + 1, rfl, by simp [T.depth], by omega, rfl⟩))
      | skip
  all_goals
    (simp only [go_sem, hw])
    ((first | refine kdq [0] ?_ (hc := ih _ (by omega)) | refine kmq [0] ?_ (hc := ih _ (by omega)) | refine ktq [0] ?_ (hc := ih _ (by omega))); rintro _ _ ⟨x1, p1, rfl, hx1, hp1, rfl⟩; (simp only [go_sem]))
    repeat' (first | (first | (((first | apply sp1 | apply sp2 | apply sp3 | apply sp4 | apply sp5 | apply sp6 | apply sp7) <;> intro hb) <;> (simp only [go_sem, hb])) | ((first | apply wm_done | apply wt_done | apply wg_run | refine fk ?_ ?_) <;> (simp only [go_sem]))) | (first | refine cdq ?_ (hc := l1Kids _) | refine cmq ?_ (hc := l1Kids _) | refine ctq ?_ (hc := l1Kids _)); (simp only [go_sem]) | (first | (refine wl_next (wg_run ?_); (simp only [go_sem])) | refine wd_rounds 6 ?_) | ((first | refine mxq6 [0] ?_ | refine mxq5 [0] ?_ | refine mxq4 [0] ?_ | refine mxq3 [0] ?_ | refine mxq2 [0] ?_ | refine mxq1 [0] ?_ | refine mxq0 [0] ?_ | fail); (simp only [go_sem])))
    (simp only [go_sem, hw])
    ((first | refine kdq [0] ?_ (hc := ih _ (by omega)) | refine kmq [0] ?_ (hc := ih _ (by omega)) | refine ktq [0] ?_ (hc := ih _ (by omega))); rintro _ _ ⟨x2, p2, rfl, hx2, hp2, rfl⟩; (simp only [go_sem]))
    repeat' (first | (first | (((first | apply sp1 | apply sp2 | apply sp3 | apply sp4 | apply sp5 | apply sp6 | apply sp7) <;> intro hb) <;> (simp only [go_sem, hb])) | ((first | apply wm_done | apply wt_done | apply wg_run | refine fk ?_ ?_) <;> (simp only [go_sem]))) | (first | refine cdq ?_ (hc := l1Kids _) | refine cmq ?_ (hc := l1Kids _) | refine ctq ?_ (hc := l1Kids _)); (simp only [go_sem]) | (first | (refine wl_next (wg_run ?_); (simp only [go_sem])) | refine wd_rounds 6 ?_) | ((first | refine mxq6 [0] ?_ | refine mxq5 [0] ?_ | refine mxq4 [0] ?_ | refine mxq3 [0] ?_ | refine mxq2 [0] ?_ | refine mxq1 [0] ?_ | refine mxq0 [0] ?_ | fail); (simp only [go_sem])))
    first
      | exact hR _ (rat [] (hK := ⟨.fn x1 x2, p2, rfl, by simp only [T.depth]; omega, by omega, rfl⟩))
      | exact hR _ (rat [] (hK := ⟨.pr x1 x2, p2, rfl, by simp only [T.depth]; omega, by omega, rfl⟩))
theorem DrawsT.mono {bs : List Int} {p c d c' d' : Nat} {r : AV} {H' : List Blk} (h : DrawsT bs p c d r H') (hc : c ≤ c') (hd : d ≤ d') : DrawsT bs p c' d' r H' := by
  obtain ⟨x, p', h1, h2, h3, h4⟩ := h
  exact ⟨x, p', h1, by omega, by omega, h4⟩
/-- a draw of a type of depth at most d costs at most 23 -/
theorem l1Draw (bs : List Int) (hB : Bs bs) (d : Nat) (hd : 1 ≤ d) (hd4 : d ≤ 4) (p : Nat) (hp : p < 1000000000) : ACl Try.prog 80 [.one (.ptr 2 0 0 0), .one (.sc (.int .i64 (d : Nat)))] [(⟨2, 83, .mut, [[.sl (byR bs), .sc (.int .i64 ((p : Nat) : Int))]]⟩ : Blk)] (DrawsT bs p 23 d) := by
  have h1 : ∀ p, p < 1000001000 → ACl Try.prog 80 [.one (.ptr 2 0 0 0), .one (.sc (.int .i64 ((1 : Nat) : Int)))] [(⟨2, 83, .mut, [[.sl (byR bs), .sc (.int .i64 ((p : Nat) : Int))]]⟩ : Blk)] (DrawsT bs p 2 1) := fun p hp => l1Draw1 bs hB p (by omega)
  have h2 := l1DrawN bs hB 1 2 (by omega) (by omega) 1000000900 (by omega) (fun p hp => h1 p (by omega))
  have h3 := l1DrawN bs hB 2 5 (by omega) (by omega) 1000000800 (by omega) (fun p hp => h2 p (by omega))
  have h4 := l1DrawN bs hB 3 11 (by omega) (by omega) 1000000000 (by omega) (fun p hp => h3 p (by omega))
  obtain rfl | rfl | rfl | rfl : d = 1 ∨ d = 2 ∨ d = 3 ∨ d = 4 := by omega
  · exact (h1 p (by omega)).mono fun r H' h => h.mono (by omega) (by omega)
  · exact (h2 p (by omega)).mono fun r H' h => h.mono (by omega) (by omega)
  · exact (h3 p (by omega)).mono fun r H' h => h.mono (by omega) (by omega)
  · exact (h4 p hp).mono fun r H' h => h.mono (by omega) (by omega)
theorem l1Type (bs : List Int) (hB : Bs bs) (p : Nat) (hp : p < 999999000) : ACl Try.prog 86 [.one (.ptr 2 0 0 0)] [(⟨2, 83, .mut, [[.sl (byR bs), .sc (.int .i64 ((p : Nat) : Int))]]⟩ : Blk)] (DrawsT bs p 24 4) := by
  have hk := num bs hB p (by omega) [3, 2, 4, 1, 3] (by decide) (by decide)
  have hd : ∀ d : Nat, 1 ≤ d → d ≤ 4 → ∀ p, p < 1000000000 → ACl Try.prog 80 [.one (.ptr 2 0 0 0), .one (.sc (.int .i64 (d : Nat)))] [(⟨2, 83, .mut, [[.sl (byR bs), .sc (.int .i64 ((p : Nat) : Int))]]⟩ : Blk)] (DrawsT bs p 23 d) := fun d h1 h2 p hp => l1Draw bs hB d h1 h2 p hp
  refine acl_in Try.func86 rfl isfn_86 (Nat.le_of_ble_eq_true rfl) (fun R hR => ?_); rw [Try.results86] at hR; refine wg_run ?_; (simp only [Try.f86, go_sem])
  ((first | refine kdq [0] ?_ (hc := hk) | refine kmq [0] ?_ (hc := hk) | refine ktq [0] ?_ (hc := hk)); rintro _ _ ⟨z, rfl, hz, rfl⟩; (simp only [go_sem]))
  simp only [List.mem_cons, List.not_mem_nil, or_false] at hz
  obtain ⟨d, rfl, hd1, hd4⟩ : ∃ d : Nat, z = (d : Int) ∧ 1 ≤ d ∧ d ≤ 4 := ⟨z.toNat, by omega, by omega, by omega⟩
  ((first | refine kdq [0] ?_ (hc := hd d hd1 hd4 (p + 1) (by omega)) | refine kmq [0] ?_ (hc := hd d hd1 hd4 (p + 1) (by omega)) | refine ktq [0] ?_ (hc := hd d hd1 hd4 (p + 1) (by omega))); rintro _ _ ⟨x1, p1, rfl, hx1, hp1, rfl⟩; (simp only [go_sem]))
  exact hR _ (rat [] (hK := ⟨x1, p1, rfl, by omega, by omega, rfl⟩))
theorem tys (d : Nat) (x : T) (h : x.depth ≤ d) : x.size < 2 ^ d := by
  induction x generalizing d with
  | any | int | bool => simp only [T.depth, T.size] at *; exact Nat.one_lt_two_pow (by omega)
  | fn a b iha ihb | pr a b iha ihb =>
    simp only [T.depth, T.size] at *
    obtain ⟨d, rfl⟩ : ∃ e, d = e + 1 := ⟨d - 1, by omega⟩
    have := iha d (by omega); have := ihb d (by omega)
    rw [Nat.pow_succ]; omega
theorem sizes_append (l m : List Ty) : Ty.sizes (l ++ m) = Ty.sizes l + Ty.sizes m := by
  induction l with
  | nil => simp [Ty.sizes]
  | cons x l ih => simp only [List.cons_append, Ty.sizes, ih]; omega
/-- a draw of some type, not too large -/
def DrawsY (bs : List Int) (p c n : Nat) (r : AV) (H' : List Blk) : Prop := ∃ (x : Ty) (p' : Nat), r = .agg (tyC x) ∧ x.size ≤ n ∧ p' ≤ p + c ∧ H' = [(⟨2, 83, .mut, [[.sl (byR bs), .sc (.int .i64 ((p' : Nat) : Int))]]⟩ : Blk)]
theorem l1Mutate (bs : List Int) (hB : Bs bs) (p : Nat) (hp : p < 999999000) (t : Ty) (ht : t.size < 1000000) : ACl Try.prog 85 [.one (.ptr 2 0 0 0), .agg (tyC t)] [(⟨2, 83, .mut, [[.sl (byR bs), .sc (.int .i64 ((p : Nat) : Int))]]⟩ : Blk)] (DrawsY bs p 2 (t.size + 8)) := by
  have hc := l1CopyO 1000000 (by omega) t ht
  have hk := pick bs hB p (by omega) 40 (by omega) (by omega)
  have hl : t.kids.length < 1000000 := by have := Ty.length_le_sizes t.kids; cases t; simp only [Ty.size, Ty.kids] at *; omega
  have hn := num bs hB (p + 1) (by omega) [0, 6, 1, 4, -1] (by decide) (by decide)
  have hcap : (t.kids.length + 1) * 32 ≤ 140737488355328 := by omega
  obtain ⟨k, l⟩ := t
  simp only [Ty.kids, Ty.kind] at hl hcap
  refine acl_in Try.func85 rfl isfn_85 (Nat.le_of_ble_eq_true rfl) (fun R hR => ?_); rw [Try.results85] at hR; refine wg_run ?_; (simp only [Try.f85, go_sem])
  ((first | refine kdq [] ?_ (hc := hc) | refine kmq [] ?_ (hc := hc) | refine ktq [] ?_ (hc := hc)); rintro _ _ (⟨hk0, rfl, rfl⟩ | ⟨hk0, rfl, rfl⟩) <;> (simp only [go_sem]))
  · simp only [Ty.kids] at hk0
    subst hk0
    ((first | refine kdq [0] ?_ (hc := hk) | refine kmq [0] ?_ (hc := hk) | refine ktq [0] ?_ (hc := hk)); rintro _ _ ⟨z, rfl, hz, hz1, rfl⟩; (simp only [go_sem]))
    repeat' (first | (((first | apply sp1 | apply sp2 | apply sp3 | apply sp4 | apply sp5 | apply sp6 | apply sp7) <;> intro hb) <;> (simp only [go_sem, hb])) | ((first | apply wm_done | apply wt_done | apply wg_run | refine fk ?_ ?_) <;> (simp only [go_sem])))
    · ((first | refine kdq [0] ?_ (hc := hn) | refine kmq [0] ?_ (hc := hn) | refine ktq [0] ?_ (hc := hn)); rintro _ _ ⟨y, rfl, hy, rfl⟩; (simp only [go_sem]))
      exact hR _ (rat [] (hK := ⟨.mk y [], p + 2, rfl, by simp [Ty.size, Ty.sizes], by omega, rfl⟩))
    · ((first | refine mxq6 [0] ?_ | refine mxq5 [0] ?_ | refine mxq4 [0] ?_ | refine mxq3 [0] ?_ | refine mxq2 [0] ?_ | refine mxq1 [0] ?_ | refine mxq0 [0] ?_ | fail); (simp only [go_sem]))
      repeat' (first | (first | (((first | apply sp1 | apply sp2 | apply sp3 | apply sp4 | apply sp5 | apply sp6 | apply sp7) <;> intro hb) <;> (simp only [go_sem, hb])) | ((first | apply wm_done | apply wt_done | apply wg_run | refine fk ?_ ?_) <;> (simp only [go_sem]))) | (first | refine cdq ?_ (hc := l1Any) | refine cmq ?_ (hc := l1Any) | refine ctq ?_ (hc := l1Any)); (simp only [go_sem]))
      exact hR _ (rat [] (hK := ⟨.mk k [.mk 1 []], p + 1, rfl, by simp [Ty.size, Ty.sizes], by omega, rfl⟩))
    · repeat' (first | (first | (((first | apply sp1 | apply sp2 | apply sp3 | apply sp4 | apply sp5 | apply sp6 | apply sp7) <;> intro hb) <;> (simp only [go_sem, hb])) | ((first | apply wm_done | apply wt_done | apply wg_run | refine fk ?_ ?_) <;> (simp only [go_sem]))) | (first | (refine wl_next (wg_run ?_); (simp only [go_sem])) | refine wd_rounds 6 ?_) | (first | refine cdq ?_ (hc := l1Any) | refine cmq ?_ (hc := l1Any) | refine ctq ?_ (hc := l1Any)); (simp only [go_sem]) | ((first | refine mxq6 [0] ?_ | refine mxq5 [0] ?_ | refine mxq4 [0] ?_ | refine mxq3 [0] ?_ | refine mxq2 [0] ?_ | refine mxq1 [0] ?_ | refine mxq0 [0] ?_ | fail); (simp only [go_sem])))
      exact hR _ (rat [] (hK := ⟨.mk 4 [.mk 1 [], .mk 4 [.mk 1 [], .mk 4 [.mk 1 [], .mk 4 [.mk 1 [], .mk k []]]]], p + 1, rfl, by simp [Ty.size, Ty.sizes], by omega, rfl⟩))
    · exact hR _ (rat [] (hK := ⟨.mk k [], p + 1, rfl, by simp [Ty.size, Ty.sizes], by omega, rfl⟩))
  · simp only [Ty.kids] at hk0
    ((first | refine kdq [0] ?_ (hc := hk) | refine kmq [0] ?_ (hc := hk) | refine ktq [0] ?_ (hc := hk)); rintro _ _ ⟨z, rfl, hz, hz1, rfl⟩; (simp only [go_sem]))
    repeat' (first | (((first | apply sp1 | apply sp2 | apply sp3 | apply sp4 | apply sp5 | apply sp6 | apply sp7) <;> intro hb) <;> (simp only [go_sem, hb])) | ((first | apply wm_done | apply wt_done | apply wg_run | refine fk ?_ ?_) <;> (simp only [go_sem])))
    · ((first | refine kdq [0] ?_ (hc := hn) | refine kmq [0] ?_ (hc := hn) | refine ktq [0] ?_ (hc := hn)); rintro _ _ ⟨y, rfl, hy, rfl⟩; (simp only [go_sem]))
      exact hR _ (rat [] (hK := ⟨.mk y l, p + 2, rfl, by simp [Ty.size, Ty.sizes], by omega, rfl⟩))
    · ((first | refine mxq6 [0] ?_ | refine mxq5 [0] ?_ | refine mxq4 [0] ?_ | refine mxq3 [0] ?_ | refine mxq2 [0] ?_ | refine mxq1 [0] ?_ | refine mxq0 [0] ?_ | fail); (simp only [go_sem]))
      repeat' (first | (first | (simp only [go_sem, hcap]) | (((first | apply sp1 | apply sp2 | apply sp3 | apply sp4 | apply sp5 | apply sp6 | apply sp7) <;> intro hb) <;> (simp only [go_sem, hb, hcap])) | ((first | apply wm_done | apply wt_done | apply wg_run | refine fk ?_ ?_) <;> (simp only [go_sem, hcap]))) | (first | refine cdq ?_ (hc := l1Any) | refine cmq ?_ (hc := l1Any) | refine ctq ?_ (hc := l1Any)); (simp only [go_sem]))
      refine hR _ (rat [] (hK := ⟨Ty.mk k (l ++ [Ty.mk 1 []]), p + 1, ?_, ?_, by omega, rfl⟩))
      · rw [tyC_eq (Ty.mk k (l ++ [Ty.mk 1 []])), kind_mk, kids_mk, tyR_append]; rfl
      · simp only [Ty.size, sizes_append, Ty.sizes]; omega
    · repeat' (first | (first | (((first | apply sp1 | apply sp2 | apply sp3 | apply sp4 | apply sp5 | apply sp6 | apply sp7) <;> intro hb) <;> (simp only [go_sem, hb])) | ((first | apply wm_done | apply wt_done | apply wg_run | refine fk ?_ ?_) <;> (simp only [go_sem]))) | (first | (refine wl_next (wg_run ?_); (simp only [go_sem])) | refine wd_rounds 6 ?_) | (first | refine cdq ?_ (hc := l1Any) | refine cmq ?_ (hc := l1Any) | refine ctq ?_ (hc := l1Any)); (simp only [go_sem]) | ((first | refine mxq6 [0] ?_ | refine mxq5 [0] ?_ | refine mxq4 [0] ?_ | refine mxq3 [0] ?_ | refine mxq2 [0] ?_ | refine mxq1 [0] ?_ | refine mxq0 [0] ?_ | fail); (simp only [go_sem])))
      exact hR _ (rat [] (hK := ⟨.mk 4 [.mk 1 [], .mk 4 [.mk 1 [], .mk 4 [.mk 1 [], .mk 4 [.mk 1 [], .mk k l]]]], p + 1, rfl, by simp [Ty.size, Ty.sizes]; omega, by omega, rfl⟩))
    · exact hR _ (rat [] (hK := ⟨.mk k l, p + 1, rfl, by simp [Ty.size, Ty.sizes], by omega, rfl⟩))
end Go.Proofs.Ytnaebafafhamjaa
/- The reference's draws of types near a type, and of pairs, on shadows. -/
namespace Go.Proofs.Ytnaebafafhamjaa
open Go.RowKit Go.Proofs.Sh Go.Proofs.Grad
set_option maxRecDepth 100000
set_option maxHeartbeats 4000000
/-- a code -/
structure Code8 (l : List Int) : Prop where
  len : l.length < 4611686018427387904
  all : ∀ k, 0 ≤ byte l k ∧ byte l k < 256
end Go.Proofs.Ytnaebafafhamjaa
/- The reference's draws of terms, on shadows. -/
namespace Go.Proofs.Grad
def bsOf (l : List UInt8) : ByteArray := ⟨l.toArray⟩
def nms (l : List UInt8) : Prop := ∀ b ∈ l, nmB b = true
theorem bsOf_size (l : List UInt8) : (bsOf l).size = l.length := by simp [bsOf, ByteArray.size]
theorem bsOf_extract (l : List UInt8) (i j : Nat) : (bsOf l).extract i j = bsOf ((l.take j).drop i) := by
  refine ByteArray.ext ?_
  rw [ByteArray.data_extract]
  simp only [bsOf, List.extract_toArray, List.extract_eq_take_drop, List.drop_take]
theorem bsOf_append (l m : List UInt8) : bsOf l ++ bsOf m = bsOf (l ++ m) := by
  refine bytes_ext ?_
  rw [Go.ByteArray.toList_eq, Go.ByteArray.toList_eq]
  simp [bsOf]
theorem bsOf_one (l : List UInt8) (k : Nat) (h : k < l.length) : (bsOf l).extract k (k + 1) = nm l[k] := by
  rw [bsOf_extract]
  have : (l.take (k + 1)).drop k = [l[k]] := by
    rw [List.take_succ_eq_append_getElem h, List.drop_append_of_le_length (by simp; omega), List.drop_eq_nil_of_le (by simp; omega)]; rfl
  rw [this]; rfl
theorem nms_take {l : List UInt8} (h : nms l) (k : Nat) : nms (l.take k) := fun b hb => h b (List.mem_of_mem_take hb)
theorem nms_drop {l : List UInt8} (h : nms l) (k : Nat) : nms (l.drop k) := fun b hb => h b (List.mem_of_mem_drop hb)
theorem nms_append {l m : List UInt8} (h : nms l) (h2 : nms m) : nms (l ++ m) := fun b hb => (List.mem_append.1 hb).elim (h b) (h2 b)
structure AddF (l : List UInt8) (y : UInt8) (k : Nat) : Prop where
  hx1 : (bsOf l).extract 0 k = bsOf (l.take k)
  hx2 : (bsOf l).extract k (bsOf l).size = bsOf (l.drop k)
  hap : bsOf (l.take k) ++ nm y = bsOf (l.take k ++ [y])
  hap2 : bsOf (l.take k ++ [y]) ++ bsOf (l.drop k) = bsOf (l.take k ++ [y] ++ l.drop k)
  d6 : (bsOf (l.take k)).size + (nm y).size < 4611686018427387904
  d7 : (bsOf (l.take k ++ [y])).size + (bsOf (l.drop k)).size < 4611686018427387904
  d5 : decide (k ≤ (bsOf l).size) = true
  d8 : decide (0 ≤ k) = true
  hm1 : nms (l.take k ++ [y] ++ l.drop k)
  hm2 : (l.take k ++ [y] ++ l.drop k).length ≤ l.length + 1
theorem addF {l : List UInt8} {y : UInt8} {k : Nat} (hl : l.length < 1000000) (hn : nms l) (hy : nmB y = true) (hk : k ≤ l.length) : AddF l y k := by
  have hsz := bsOf_size l
  have hx1 : (bsOf l).extract 0 k = bsOf (l.take k) := by rw [bsOf_extract]; rfl
  have hx2 : (bsOf l).extract k (bsOf l).size = bsOf (l.drop k) := by rw [bsOf_extract, hsz, List.take_length]
  have hap : bsOf (l.take k) ++ nm y = bsOf (l.take k ++ [y]) := bsOf_append _ [y]
  have hap2 : bsOf (l.take k ++ [y]) ++ bsOf (l.drop k) = bsOf (l.take k ++ [y] ++ l.drop k) := bsOf_append _ _
  have d6 : (bsOf (l.take k)).size + (nm y).size < 4611686018427387904 := by rw [bsOf_size, nm_size]; simp; omega
  have d7 : (bsOf (l.take k ++ [y])).size + (bsOf (l.drop k)).size < 4611686018427387904 := by rw [bsOf_size, bsOf_size]; simp; omega
  have d5 : decide (k ≤ (bsOf l).size) = true := by rw [hsz]; simp; omega
  have d8 : decide (0 ≤ k) = true := by simp
  have hm1 : nms (l.take k ++ [y] ++ l.drop k) := nms_append (nms_append (nms_take hn k) (by intro b hb; simp at hb; subst hb; exact hy)) (nms_drop hn k)
  have hm2 : (l.take k ++ [y] ++ l.drop k).length ≤ l.length + 1 := by simp; omega
  exact ⟨hx1, hx2, hap, hap2, d6, d7, d5, d8, hm1, hm2⟩
end Go.Proofs.Grad
namespace Go.Proofs.Sh
open Go.RowKit
theorem addOk_of {x y : ByteArray} (h : x.size + y.size < 4611686018427387904) : addOk x y = true := Nat.ble_eq_true_of_le (by omega)
end Go.Proofs.Sh
namespace Go.Proofs.Ytnaebafafhamjaa
open Go.RowKit Go.Proofs.Sh Go.Proofs.Grad
set_option maxRecDepth 100000
set_option maxHeartbeats 8000000
/-- a draw: of a term without casts, at a cost of at most c, of a size of at most n -/
def DrawsE (bs : List Int) (p c n : Nat) (r : AV) (H' : List Blk) : Prop := ∃ (e : E) (p' : Nat), r = .agg (teC e.tm) ∧ e.wf = true ∧ e.noC = true ∧ e.tm.size ≤ n ∧ p' ≤ p + c ∧ H' = [(⟨2, 83, .mut, [[.sl (byR bs), .sc (.int .i64 ((p' : Nat) : Int))]]⟩ : Blk)]
theorem DrawsE.mono {bs : List Int} {p c n c' n' : Nat} {r : AV} {H' : List Blk} (h : DrawsE bs p c n r H') (hc : c ≤ c') (hn : n ≤ n') : DrawsE bs p c' n' r H' := by
  obtain ⟨x, p', h1, h2, h3, h4, h5, h6⟩ := h
  exact ⟨x, p', h1, h2, h3, by omega, by omega, h6⟩
theorem l2Add (l : List UInt8) (hl : l.length < 1000000) (hn : nms l) (y : UInt8) (hy : nmB y = true) : ACl Try.prog 168 [.one (.sc (.string (bsOf l))), .one (.sc (.string (nm y)))] [] (fun r H' => ∃ m : List UInt8, r = .one (.sc (.string (bsOf m))) ∧ nms m ∧ m.length ≤ l.length + 1 ∧ H' = []) := by
  have hsz := bsOf_size l
  refine acl_in Try.func168 rfl isfn_168 (Nat.le_of_ble_eq_true rfl) (fun R hR => ?_); rw [Try.results168] at hR; refine wg_run ?_; (simp only [Try.f168, go_sem])
  refine wd_for [0, 1, 4, 5] (fun k => [.one (.sc (.string (bsOf l))), .one (.sc (.string (nm y))), .one (.sc (.string ⟨#[]⟩)), .one (.sc (.int .i64 (k : Nat)))]) (fun _ => [])
    (fun k => k ≤ l.length) (fun k => l.length - k) 0 (Nat.zero_le _) (hat [] (hI := ⟨rfl, rfl⟩)) ?_
  rintro k hk G hG
  refine wg_run ?_
  have hF := addF (y := y) hl hn hy hk
  obtain ⟨hx1, hx2, hap, hap2, d6, d7, d5, d8, hm1, hm2⟩ := hF
  have d6 := addOk_of d6
  have d7 := addOk_of d7
  by_cases hk1 : k < l.length
  · have hw1 := wrap_succ hk1 (by omega)
    have d2 : decide ((k : Int) < ((bsOf l).size : Int)) = true := by rw [hsz]; simp; omega
    have d3 : decide (k + 1 ≤ (bsOf l).size) = true := by rw [hsz]; simp; omega
    have d4 : decide (k ≤ k + 1) = true := by simp
    (simp only [go_sem, d2])
    repeat' (first | (first | (simp only [go_sem, d2, hw1, d3, d4, d5, d6, d7, d8, hx1, hx2, hap, hap2]) | (((first | apply sp1 | apply sp2 | apply sp3 | apply sp4 | apply sp5 | apply sp6 | apply sp7) <;> intro hb) <;> (simp only [go_sem, hb, d2, hw1, d3, d4, d5, d6, d7, d8, hx1, hx2, hap, hap2])) | ((first | apply wm_done | apply wt_done | apply wg_run | refine fk ?_ ?_) <;> (simp only [go_sem, d2, hw1, d3, d4, d5, d6, d7, d8, hx1, hx2, hap, hap2]))) | (refine wd_mix 0 [] follows (by kernel_rfl) (by (simp only [go_sem]); first | done | rfl) ?_; (simp only [go_sem])) | fail)
    all_goals first
      | exact hG (k + 1) _ _ (by omega) (by omega) (hat [] (hI := ⟨rfl, rfl⟩))
      | exact hR _ (rat [] (hK := ⟨l, rfl, hn, by omega, rfl⟩))
      | exact hR _ (rat [] (hK := ⟨l.take k ++ [y] ++ l.drop k, rfl, hm1, hm2, rfl⟩))
  · have d2 : decide ((k : Int) < ((bsOf l).size : Int)) = false := by rw [hsz]; simp; omega
    (simp only [go_sem, d2])
    repeat' (first | (first | (simp only [go_sem, d2, d5, d6, d7, d8, hx1, hx2, hap, hap2]) | (((first | apply sp1 | apply sp2 | apply sp3 | apply sp4 | apply sp5 | apply sp6 | apply sp7) <;> intro hb) <;> (simp only [go_sem, hb, d2, d5, d6, d7, d8, hx1, hx2, hap, hap2])) | ((first | apply wm_done | apply wt_done | apply wg_run | refine fk ?_ ?_) <;> (simp only [go_sem, d2, d5, d6, d7, d8, hx1, hx2, hap, hap2]))) | (refine wd_mix 0 [] follows (by kernel_rfl) (by (simp only [go_sem]); first | done | rfl) ?_; (simp only [go_sem])) | fail)
    exact hR _ (rat [] (hK := ⟨l.take k ++ [y] ++ l.drop k, rfl, hm1, hm2, rfl⟩))
theorem l2NumS (n : Int) : AFn Try.prog 132 [.one (.sc (.int .i64 n))] (.agg (teC (E.num n).tm)) := by
  simp only [E.tm]
  refine fn_in ?_; refine acl_in Try.func132 rfl isfn_132 (Nat.le_of_ble_eq_true rfl) (fun R hR => ?_); rw [Try.results132] at hR; refine wg_run ?_; (simp only [Try.f132, go_sem])
  repeat' (first | (first | (((first | apply sp1 | apply sp2 | apply sp3 | apply sp4 | apply sp5 | apply sp6 | apply sp7) <;> intro hb) <;> (simp only [go_sem, hb])) | ((first | apply wm_done | apply wt_done | apply wg_run | refine fk ?_ ?_) <;> (simp only [go_sem]))) | fail)
  (refine hR _ (rat [] (hK := ⟨rfl, rfl⟩)))
theorem l2Atom (bs : List Int) (hB : Bs bs) (p : Nat) (hp : p < 999990000) (l : List UInt8) (hl : l.length < 1000000) (hn : nms l) : ACl Try.prog 167 [.one (.ptr 2 0 0 0), .one (.sc (.string (bsOf l)))] [(⟨2, 83, .mut, [[.sl (byR bs), .sc (.int .i64 ((p : Nat) : Int))]]⟩ : Blk)] (DrawsE bs p 4 4) := by
  have hsz := bsOf_size l
  have h1 := pick bs hB p (by omega) 4 (by omega) (by omega)
  have fin : ∀ q, q < 999995000 → ∀ z : Int, z ∈ [1, 0, 2, 5, 999, 7] → (E.num z).wf = true := by
    intro q _ z hz
    simp only [List.mem_cons, List.not_mem_nil, or_false] at hz
    rcases hz with rfl | rfl | rfl | rfl | rfl | rfl <;> decide
  by_cases h0 : l.length = 0
  · have d0 : decide (((bsOf l).size : Int) > 0) = false := by rw [hsz, h0]; rfl
    have h2 := pick bs hB p (by omega) 5 (by omega) (by omega)
    have h3 := num bs hB (p + 1) (by omega) [1, 0, 2, 5, 999, 7] (by decide) (by decide)
    refine acl_in Try.func167 rfl isfn_167 (Nat.le_of_ble_eq_true rfl) (fun R hR => ?_); rw [Try.results167] at hR; refine wg_run ?_; (simp only [Try.f167, go_sem, d0])
    repeat' (first | (first | (simp only [go_sem, d0]) | (((first | apply sp1 | apply sp2 | apply sp3 | apply sp4 | apply sp5 | apply sp6 | apply sp7) <;> intro hb) <;> (simp only [go_sem, hb, d0])) | ((first | apply wm_done | apply wt_done | apply wg_run | refine fk ?_ ?_) <;> (simp only [go_sem, d0]))) | fail)
    ((first | refine kdq [0] ?_ (hc := h2) | refine kmq [0] ?_ (hc := h2) | refine ktq [0] ?_ (hc := h2)); rintro _ _ ⟨z, rfl, hz, hz1, rfl⟩; (simp only [go_sem]))
    repeat' (first | (first | (((first | apply sp1 | apply sp2 | apply sp3 | apply sp4 | apply sp5 | apply sp6 | apply sp7) <;> intro hb) <;> (simp only [go_sem, hb])) | ((first | apply wm_done | apply wt_done | apply wg_run | refine fk ?_ ?_) <;> (simp only [go_sem]))) | fail)
    · exact hR _ (rat [] (hK := ⟨.tru, p + 1, rfl, rfl, rfl, by simp [E.tm, nd, Tm.size, Tm.sizes, noTy, Ty.size, Ty.sizes], by omega, rfl⟩))
    · exact hR _ (rat [] (hK := ⟨.fls, p + 1, rfl, rfl, rfl, by simp [E.tm, nd, Tm.size, Tm.sizes, noTy, Ty.size, Ty.sizes], by omega, rfl⟩))
    · ((first | refine kdq [0] ?_ (hc := h3) | refine kmq [0] ?_ (hc := h3) | refine ktq [0] ?_ (hc := h3)); rintro _ _ ⟨y, rfl, hy, rfl⟩; (simp only [go_sem]))
      repeat' (first | (first | (((first | apply sp1 | apply sp2 | apply sp3 | apply sp4 | apply sp5 | apply sp6 | apply sp7) <;> intro hb) <;> (simp only [go_sem, hb])) | ((first | apply wm_done | apply wt_done | apply wg_run | refine fk ?_ ?_) <;> (simp only [go_sem]))) | (first | refine cdq ?_ (hc := l2NumS _) | refine cmq ?_ (hc := l2NumS _) | refine ctq ?_ (hc := l2NumS _)); (simp only [go_sem]) | fail)
      exact hR _ (rat [] (hK := ⟨.num y, p + 2, rfl, fin p (by omega) y hy, rfl, by simp [E.tm, nd, Tm.size, Tm.sizes, noTy, Ty.size, Ty.sizes], by omega, rfl⟩))
  · have d0 : decide (((bsOf l).size : Int) > 0) = true := by rw [hsz]; simp; omega
    have h2 := pick bs hB (p + 1) (by omega) 5 (by omega) (by omega)
    have h3 := num bs hB (p + 2) (by omega) [1, 0, 2, 5, 999, 7] (by decide) (by decide)
    have h4 := pick bs hB (p + 1) (by omega) ((bsOf l).size : Nat) (by omega) (by rw [hsz]; omega)
    refine acl_in Try.func167 rfl isfn_167 (Nat.le_of_ble_eq_true rfl) (fun R hR => ?_); rw [Try.results167] at hR; refine wg_run ?_; (simp only [Try.f167, go_sem, d0])
    repeat' (first | (first | (simp only [go_sem, d0]) | (((first | apply sp1 | apply sp2 | apply sp3 | apply sp4 | apply sp5 | apply sp6 | apply sp7) <;> intro hb) <;> (simp only [go_sem, hb, d0])) | ((first | apply wm_done | apply wt_done | apply wg_run | refine fk ?_ ?_) <;> (simp only [go_sem, d0]))) | fail)
    ((first | refine kdq [0] ?_ (hc := h1) | refine kmq [0] ?_ (hc := h1) | refine ktq [0] ?_ (hc := h1)); rintro _ _ ⟨x, rfl, hx, hx1, rfl⟩; (simp only [go_sem]))
    repeat' (first | (first | (((first | apply sp1 | apply sp2 | apply sp3 | apply sp4 | apply sp5 | apply sp6 | apply sp7) <;> intro hb) <;> (simp only [go_sem, hb])) | ((first | apply wm_done | apply wt_done | apply wg_run | refine fk ?_ ?_) <;> (simp only [go_sem]))) | fail)
    · ((first | refine kdq [0] ?_ (hc := h4) | refine kmq [0] ?_ (hc := h4) | refine ktq [0] ?_ (hc := h4)); rintro _ _ ⟨k, rfl, hk, hk1, rfl⟩; (simp only [go_sem]))
      obtain ⟨k, rfl⟩ := Int.eq_ofNat_of_zero_le hk
      have hkl : k < l.length := by rw [hsz] at hk1; omega
      have hw1 := wrap_succ hkl (by omega)
      have d3 : decide (k + 1 ≤ (bsOf l).size) = true := by rw [hsz]; simp; omega
      have d4 : decide (k ≤ k + 1) = true := by simp
      have he := bsOf_one l k hkl
      have hm := hn _ (List.getElem_mem hkl)
      repeat' (first | (first | (simp only [go_sem, hw1, d3, d4, he]) | (((first | apply sp1 | apply sp2 | apply sp3 | apply sp4 | apply sp5 | apply sp6 | apply sp7) <;> intro hb) <;> (simp only [go_sem, hb, hw1, d3, d4, he])) | ((first | apply wm_done | apply wt_done | apply wg_run | refine fk ?_ ?_) <;> (simp only [go_sem, hw1, d3, d4, he]))) | fail)
      exact hR _ (rat [] (hK := ⟨.var l[k], p + 2, rfl, hm, rfl, by simp [E.tm, nd, Tm.size, Tm.sizes, noTy, Ty.size, Ty.sizes], by omega, rfl⟩))
    · ((first | refine kdq [0] ?_ (hc := h2) | refine kmq [0] ?_ (hc := h2) | refine ktq [0] ?_ (hc := h2)); rintro _ _ ⟨z, rfl, hz, hz1, rfl⟩; (simp only [go_sem]))
      repeat' (first | (first | (((first | apply sp1 | apply sp2 | apply sp3 | apply sp4 | apply sp5 | apply sp6 | apply sp7) <;> intro hb) <;> (simp only [go_sem, hb])) | ((first | apply wm_done | apply wt_done | apply wg_run | refine fk ?_ ?_) <;> (simp only [go_sem]))) | fail)
      · exact hR _ (rat [] (hK := ⟨.tru, p + 2, rfl, rfl, rfl, by simp [E.tm, nd, Tm.size, Tm.sizes, noTy, Ty.size, Ty.sizes], by omega, rfl⟩))
      · exact hR _ (rat [] (hK := ⟨.fls, p + 2, rfl, rfl, rfl, by simp [E.tm, nd, Tm.size, Tm.sizes, noTy, Ty.size, Ty.sizes], by omega, rfl⟩))
      · ((first | refine kdq [0] ?_ (hc := h3) | refine kmq [0] ?_ (hc := h3) | refine ktq [0] ?_ (hc := h3)); rintro _ _ ⟨y, rfl, hy, rfl⟩; (simp only [go_sem]))
        repeat' (first | (first | (((first | apply sp1 | apply sp2 | apply sp3 | apply sp4 | apply sp5 | apply sp6 | apply sp7) <;> intro hb) <;> (simp only [go_sem, hb])) | ((first | apply wm_done | apply wt_done | apply wg_run | refine fk ?_ ?_) <;> (simp only [go_sem]))) | (first | refine cdq ?_ (hc := l2NumS _) | refine cmq ?_ (hc := l2NumS _) | refine ctq ?_ (hc := l2NumS _)); (simp only [go_sem]) | fail)
        exact hR _ (rat [] (hK := ⟨.num y, p + 3, rfl, fin p (by omega) y hy, rfl, by simp [E.tm, nd, Tm.size, Tm.sizes, noTy, Ty.size, Ty.sizes], by omega, rfl⟩))
end Go.Proofs.Ytnaebafafhamjaa
