/- Texts of the proof, one behind another. -/
import Derived.Test.YtnaebafafhamjaaGreatKX10
import Derived.Test.YtnaebafafhamjaaGreatKX12
import Derived.Test.YtnaebafafhamjaaGreatKX15
set_option linter.unusedSimpArgs false
set_option linter.unusedVariables false
/- The reference's draws of terms, on shadows. -/
namespace Go.Proofs.Grad
def bsOf (l : List UInt8) : ByteArray := ⟨l.toArray⟩
def nms (l : List UInt8) : Prop := ∀ b ∈ l, nmB b = true
theorem bsOf_size (l : List UInt8) : (bsOf l).size = l.length := by simp [bsOf, ByteArray.size]
theorem bsOf_extract (l : List UInt8) (i j : Nat) : (bsOf l).extract i j = bsOf ((l.take j).drop i) := by
  refine ByteArray.ext ?_
  rw [ByteArray.data_extract]
  simp only [bsOf, List.extract_toArray, List.extract_eq_take_drop, List.drop_take]
theorem bsOf_append (l m : List UInt8) : bsOf l ++ bsOf m = bsOf (l ++ m) := by
  refine bytes_ext ?_
  rw [Go.ByteArray.toList_eq, Go.ByteArray.toList_eq]
  simp [bsOf]
theorem bsOf_one (l : List UInt8) (k : Nat) (h : k < l.length) : (bsOf l).extract k (k + 1) = nm l[k] := by
  rw [bsOf_extract]
  have : (l.take (k + 1)).drop k = [l[k]] := by
    rw [List.take_succ_eq_append_getElem h, List.drop_append_of_le_length (by simp; omega), List.drop_eq_nil_of_le (by simp; omega)]; rfl
  rw [this]; rfl
theorem nms_take {l : List UInt8} (h : nms l) (k : Nat) : nms (l.take k) := fun b hb => h b (List.mem_of_mem_take hb)
theorem nms_drop {l : List UInt8} (h : nms l) (k : Nat) : nms (l.drop k) := fun b hb => h b (List.mem_of_mem_drop hb)
theorem nms_append {l m : List UInt8} (h : nms l) (h2 : nms m) : nms (l ++ m) := fun b hb => (List.mem_append.1 hb).elim (h b) (h2 b)
structure AddF (l : List UInt8) (y : UInt8) (k : Nat) : Prop where
  hx1 : (bsOf l).extract 0 k = bsOf (l.take k)
  hx2 : (bsOf l).extract k (bsOf l).size = bsOf (l.drop k)
  hap : bsOf (l.take k) ++ nm y = bsOf (l.take k ++ [y])
  hap2 : bsOf (l.take k ++ [y]) ++ bsOf (l.drop k) = bsOf (l.take k ++ [y] ++ l.drop k)
  d6 : (bsOf (l.take k)).size + (nm y).size < 4611686018427387904
  d7 : (bsOf (l.take k ++ [y])).size + (bsOf (l.drop k)).size < 4611686018427387904
  d5 : decide (k ≤ (bsOf l).size) = true
  d8 : decide (0 ≤ k) = true
  hm1 : nms (l.take k ++ [y] ++ l.drop k)
  hm2 : (l.take k ++ [y] ++ l.drop k).length ≤ l.length + 1
theorem addF {l : List UInt8} {y : UInt8} {k : Nat} (hl : l.length < 1000000) (hn : nms l) (hy : nmB y = true) (hk : k ≤ l.length) : AddF l y k := by
  have hsz := bsOf_size l
  have hx1 : (bsOf l).extract 0 k = bsOf (l.take k) := by rw [bsOf_extract]; rfl
  have hx2 : (bsOf l).extract k (bsOf l).size = bsOf (l.drop k) := by rw [bsOf_extract, hsz, List.take_length]
  have hap : bsOf (l.take k) ++ nm y = bsOf (l.take k ++ [y]) := bsOf_append _ [y]
  have hap2 : bsOf (l.take k ++ [y]) ++ bsOf (l.drop k) = bsOf (l.take k ++ [y] ++ l.drop k) := bsOf_append _ _
  have d6 : (bsOf (l.take k)).size + (nm y).size < 4611686018427387904 := by rw [bsOf_size, nm_size]; simp; omega
  have d7 : (bsOf (l.take k ++ [y])).size + (bsOf (l.drop k)).size < 4611686018427387904 := by rw [bsOf_size, bsOf_size]; simp; omega
  have d5 : decide (k ≤ (bsOf l).size) = true := by rw [hsz]; simp; omega
  have d8 : decide (0 ≤ k) = true := by simp
  have hm1 : nms (l.take k ++ [y] ++ l.drop k) := nms_append (nms_append (nms_take hn k) (by intro b hb; simp at hb; subst hb; exact hy)) (nms_drop hn k)
  have hm2 : (l.take k ++ [y] ++ l.drop k).length ≤ l.length + 1 := by simp; omega
  exact ⟨hx1, hx2, hap, hap2, d6, d7, d5, d8, hm1, hm2⟩
end Go.Proofs.Grad
namespace Go.Proofs.Sh
open Go.RowKit
theorem addOk_of {x y : ByteArray} (h : x.size + y.size < 4611686018427387904) : addOk x y = true := Nat.ble_eq_true_of_le (by omega)
end Go.Proofs.Sh
namespace Go.Proofs.YtnaebafafhamjaaGreat
open Go.RowKit Go.Proofs.Sh Go.Proofs.Grad
set_option maxRecDepth 100000
set_option maxHeartbeats 8000000
/-- a draw: of a term without casts, at a cost of at most c, of a size of at most n -/
def DrawsE (bs : List Int) (p c n : Nat) (r : AV) (H' : List Blk) : Prop := ∃ (e : E) (p' : Nat), r = .agg (teC e.tm) ∧ e.wf = true ∧ e.noC = true ∧ e.tm.size ≤ n ∧ p' ≤ p + c ∧ H' = [(⟨2, 115, .mut, [[.sl (byR bs), .sc (.int .i64 ((p' : Nat) : Int))]]⟩ : Blk)]
theorem DrawsE.mono {bs : List Int} {p c n c' n' : Nat} {r : AV} {H' : List Blk} (h : DrawsE bs p c n r H') (hc : c ≤ c') (hn : n ≤ n') : DrawsE bs p c' n' r H' := by
  obtain ⟨x, p', h1, h2, h3, h4, h5, h6⟩ := h
  exact ⟨x, p', h1, h2, h3, by omega, by omega, h6⟩
theorem l2Add (l : List UInt8) (hl : l.length < 1000000) (hn : nms l) (y : UInt8) (hy : nmB y = true) : ACl Tryz.prog 214 [.one (.sc (.string (bsOf l))), .one (.sc (.string (nm y)))] [] (fun r H' => ∃ m : List UInt8, r = .one (.sc (.string (bsOf m))) ∧ nms m ∧ m.length ≤ l.length + 1 ∧ H' = []) := by
  have hsz := bsOf_size l
  refine acl_in Tryz.func214 rfl isfn_214 (Nat.le_of_ble_eq_true rfl) (fun R hR => ?_); rw [Tryz.results214] at hR; refine wg_run ?_; (simp only [Tryz.f214, go_sem])
  refine wd_for [0, 1, 4, 5] (fun k => [.one (.sc (.string (bsOf l))), .one (.sc (.string (nm y))), .one (.sc (.string ⟨#[]⟩)), .one (.sc (.int .i64 (k : Nat)))]) (fun _ => [])
    (fun k => k ≤ l.length) (fun k => l.length - k) 0 (Nat.zero_le _) (hat [] (hI := ⟨rfl, rfl⟩)) ?_
  rintro k hk G hG
  refine wg_run ?_
  have hF := addF (y := y) hl hn hy hk
  obtain ⟨hx1, hx2, hap, hap2, d6, d7, d5, d8, hm1, hm2⟩ := hF
  have d6 := addOk_of d6
  have d7 := addOk_of d7
  by_cases hk1 : k < l.length
  · have hw1 := wrap_succ hk1 (by omega)
    have d2 : decide ((k : Int) < ((bsOf l).size : Int)) = true := by rw [hsz]; simp; omega
    have d3 : decide (k + 1 ≤ (bsOf l).size) = true := by rw [hsz]; simp; omega
    have d4 : decide (k ≤ k + 1) = true := by simp
    (simp only [go_sem, d2])
    repeat' (first | (first | (simp only [go_sem, d2, hw1, d3, d4, d5, d6, d7, d8, hx1, hx2, hap, hap2]) | (((first | apply sp1 | apply sp2 | apply sp3 | apply sp4 | apply sp5 | apply sp6 | apply sp7) <;> intro hb) <;> (simp only [go_sem, hb, d2, hw1, d3, d4, d5, d6, d7, d8, hx1, hx2, hap, hap2])) | ((first | apply wm_done | apply wt_done | apply wg_run | refine fk ?_ ?_) <;> (simp only [go_sem, d2, hw1, d3, d4, d5, d6, d7, d8, hx1, hx2, hap, hap2]))) | (refine wd_mix 0 [] follows (by kernel_rfl) (by (simp only [go_sem]); first | done | rfl) ?_; (simp only [go_sem])) | fail)
    all_goals first
      | exact hG (k + 1) _ _ (by omega) (by omega) (hat [] (hI := ⟨rfl, rfl⟩))
      | exact hR _ (rat [] (hK := ⟨l, rfl, hn, by omega, rfl⟩))
      | exact hR _ (rat [] (hK := ⟨l.take k ++ [y] ++ l.drop k, rfl, hm1, hm2, rfl⟩))
  · have d2 : decide ((k : Int) < ((bsOf l).size : Int)) = false := by rw [hsz]; simp; omega
    (simp only [go_sem, d2])
    repeat' (first | (first | (simp only [go_sem, d2, d5, d6, d7, d8, hx1, hx2, hap, hap2]) | (((first | apply sp1 | apply sp2 | apply sp3 | apply sp4 | apply sp5 | apply sp6 | apply sp7) <;> intro hb) <;> (simp only [go_sem, hb, d2, d5, d6, d7, d8, hx1, hx2, hap, hap2])) | ((first | apply wm_done | apply wt_done | apply wg_run | refine fk ?_ ?_) <;> (simp only [go_sem, d2, d5, d6, d7, d8, hx1, hx2, hap, hap2]))) | (refine wd_mix 0 [] follows (by kernel_rfl) (by (simp only [go_sem]); first | done | rfl) ?_; (simp only [go_sem])) | fail)
    exact hR _ (rat [] (hK := ⟨l.take k ++ [y] ++ l.drop k, rfl, hm1, hm2, rfl⟩))
theorem l2NumS (n : Int) : AFn Tryz.prog 107 [.one (.sc (.int .i64 n))] (.agg (teC (E.num n).tm)) := by
  simp only [E.tm]
  refine fn_in ?_; refine acl_in Tryz.func107 rfl isfn_107 (Nat.le_of_ble_eq_true rfl) (fun R hR => ?_); rw [Tryz.results107] at hR; refine wg_run ?_; (simp only [Tryz.f107, go_sem])
  repeat' (first | (first | (((first | apply sp1 | apply sp2 | apply sp3 | apply sp4 | apply sp5 | apply sp6 | apply sp7) <;> intro hb) <;> (simp only [go_sem, hb])) | ((first | apply wm_done | apply wt_done | apply wg_run | refine fk ?_ ?_) <;> (simp only [go_sem]))) | fail)
  (refine hR _ (rat [] (hK := ⟨rfl, rfl⟩)))
theorem l2Atom (bs : List Int) (hB : Bs bs) (p : Nat) (hp : p < 999990000) (l : List UInt8) (hl : l.length < 1000000) (hn : nms l) : ACl Tryz.prog 213 [.one (.ptr 2 0 0 0), .one (.sc (.string (bsOf l)))] [(⟨2, 115, .mut, [[.sl (byR bs), .sc (.int .i64 ((p : Nat) : Int))]]⟩ : Blk)] (DrawsE bs p 4 4) := by
  have hsz := bsOf_size l
  have h1 := pick bs hB p (by omega) 4 (by omega) (by omega)
  have fin : ∀ q, q < 999995000 → ∀ z : Int, z ∈ [1, 0, 2, 5, 999, 7] → (E.num z).wf = true := by
    intro q _ z hz
    simp only [List.mem_cons, List.not_mem_nil, or_false] at hz
    rcases hz with rfl | rfl | rfl | rfl | rfl | rfl <;> decide
  by_cases h0 : l.length = 0
  · have d0 : decide (((bsOf l).size : Int) > 0) = false := by rw [hsz, h0]; rfl
    have h2 := pick bs hB p (by omega) 5 (by omega) (by omega)
    have h3 := num bs hB (p + 1) (by omega) [1, 0, 2, 5, 999, 7] (by decide) (by decide)
    refine acl_in Tryz.func213 rfl isfn_213 (Nat.le_of_ble_eq_true rfl) (fun R hR => ?_); rw [Tryz.results213] at hR; refine wg_run ?_; (simp only [Tryz.f213, go_sem, d0])
    repeat' (first | (first | (simp only [go_sem, d0]) | (((first | apply sp1 | apply sp2 | apply sp3 | apply sp4 | apply sp5 | apply sp6 | apply sp7) <;> intro hb) <;> (simp only [go_sem, hb, d0])) | ((first | apply wm_done | apply wt_done | apply wg_run | refine fk ?_ ?_) <;> (simp only [go_sem, d0]))) | fail)
    ((first | refine kdq [0] ?_ (hc := h2) | refine kmq [0] ?_ (hc := h2) | refine ktq [0] ?_ (hc := h2)); rintro _ _ ⟨z, rfl, hz, hz1, rfl⟩; (simp only [go_sem]))
    repeat' (first | (first | (((first | apply sp1 | apply sp2 | apply sp3 | apply sp4 | apply sp5 | apply sp6 | apply sp7) <;> intro hb) <;> (simp only [go_sem, hb])) | ((first | apply wm_done | apply wt_done | apply wg_run | refine fk ?_ ?_) <;> (simp only [go_sem]))) | fail)
    · exact hR _ (rat [] (hK := ⟨.tru, p + 1, rfl, rfl, rfl, by simp [E.tm, nd, Tm.size, Tm.sizes, noTy, Ty.size, Ty.sizes], by omega, rfl⟩))
    · exact hR _ (rat [] (hK := ⟨.fls, p + 1, rfl, rfl, rfl, by simp [E.tm, nd, Tm.size, Tm.sizes, noTy, Ty.size, Ty.sizes], by omega, rfl⟩))
    · ((first | refine kdq [0] ?_ (hc := h3) | refine kmq [0] ?_ (hc := h3) | refine ktq [0] ?_ (hc := h3)); rintro _ _ ⟨y, rfl, hy, rfl⟩; (simp only [go_sem]))
      repeat' (first | (first | (((first | apply sp1 | apply sp2 | apply sp3 | apply sp4 | apply sp5 | apply sp6 | apply sp7) <;> intro hb) <;> (simp only [go_sem, hb])) | ((first | apply wm_done | apply wt_done | apply wg_run | refine fk ?_ ?_) <;> (simp only [go_sem]))) | (first | refine cdq ?_ (hc := l2NumS _) | refine cmq ?_ (hc := l2NumS _) | refine ctq ?_ (hc := l2NumS _)); (simp only [go_sem]) | fail)
      exact hR _ (rat [] (hK := ⟨.num y, p + 2, rfl, fin p (by omega) y hy, rfl, by simp [E.tm, nd, Tm.size, Tm.sizes, noTy, Ty.size, Ty.sizes], by omega, rfl⟩))
  · have d0 : decide (((bsOf l).size : Int) > 0) = true := by rw [hsz]; simp; omega
    have h2 := pick bs hB (p + 1) (by omega) 5 (by omega) (by omega)
    have h3 := num bs hB (p + 2) (by omega) [1, 0, 2, 5, 999, 7] (by decide) (by decide)
    have h4 := pick bs hB (p + 1) (by omega) ((bsOf l).size : Nat) (by omega) (by rw [hsz]; omega)
    refine acl_in Tryz.func213 rfl isfn_213 (Nat.le_of_ble_eq_true rfl) (fun R hR => ?_); rw [Tryz.results213] at hR; refine wg_run ?_; (simp only [Tryz.f213, go_sem, d0])
    repeat' (first | (first | (simp only [go_sem, d0]) | (((first | apply sp1 | apply sp2 | apply sp3 | apply sp4 | apply sp5 | apply sp6 | apply sp7) <;> intro hb) <;> (simp only [go_sem, hb, d0])) | ((first | apply wm_done | apply wt_done | apply wg_run | refine fk ?_ ?_) <;> (simp only [go_sem, d0]))) | fail)
    ((first | refine kdq [0] ?_ (hc := h1) | refine kmq [0] ?_ (hc := h1) | refine ktq [0] ?_ (hc := h1)); rintro _ _ ⟨x, rfl, hx, hx1, rfl⟩; (simp only [go_sem]))
    repeat' (first | (first | (((first | apply sp1 | apply sp2 | apply sp3 | apply sp4 | apply sp5 | apply sp6 | apply sp7) <;> intro hb) <;> (simp only [go_sem, hb])) | ((first | apply wm_done | apply wt_done | apply wg_run | refine fk ?_ ?_) <;> (simp only [go_sem]))) | fail)
    · ((first | refine kdq [0] ?_ (hc := h4) | refine kmq [0] ?_ (hc := h4) | refine ktq [0] ?_ (hc := h4)); rintro _ _ ⟨k, rfl, hk, hk1, rfl⟩; (simp only [go_sem]))
      obtain ⟨k, rfl⟩ := Int.eq_ofNat_of_zero_le hk
      have hkl : k < l.length := by rw [hsz] at hk1; omega
      have hw1 := wrap_succ hkl (by omega)
      have d3 : decide (k + 1 ≤ (bsOf l).size) = true := by rw [hsz]; simp; omega
      have d4 : decide (k ≤ k + 1) = true := by simp
      have he := bsOf_one l k hkl
      have hm := hn _ (List.getElem_mem hkl)
      repeat' (first | (first | (simp only [go_sem, hw1, d3, d4, he]) | (((first | apply sp1 | apply sp2 | apply sp3 | apply sp4 | apply sp5 | apply sp6 | apply sp7) <;> intro hb) <;> (simp only [go_sem, hb, hw1, d3, d4, he])) | ((first | apply wm_done | apply wt_done | apply wg_run | refine fk ?_ ?_) <;> (simp only [go_sem, hw1, d3, d4, he]))) | fail)
      exact hR _ (rat [] (hK := ⟨.var l[k], p + 2, rfl, hm, rfl, by simp [E.tm, nd, Tm.size, Tm.sizes, noTy, Ty.size, Ty.sizes], by omega, rfl⟩))
    · ((first | refine kdq [0] ?_ (hc := h2) | refine kmq [0] ?_ (hc := h2) | refine ktq [0] ?_ (hc := h2)); rintro _ _ ⟨z, rfl, hz, hz1, rfl⟩; (simp only [go_sem]))
      repeat' (first | (first | (((first | apply sp1 | apply sp2 | apply sp3 | apply sp4 | apply sp5 | apply sp6 | apply sp7) <;> intro hb) <;> (simp only [go_sem, hb])) | ((first | apply wm_done | apply wt_done | apply wg_run | refine fk ?_ ?_) <;> (simp only [go_sem]))) | fail)
      · exact hR _ (rat [] (hK := ⟨.tru, p + 2, rfl, rfl, rfl, by simp [E.tm, nd, Tm.size, Tm.sizes, noTy, Ty.size, Ty.sizes], by omega, rfl⟩))
      · exact hR _ (rat [] (hK := ⟨.fls, p + 2, rfl, rfl, rfl, by simp [E.tm, nd, Tm.size, Tm.sizes, noTy, Ty.size, Ty.sizes], by omega, rfl⟩))
      · ((first | refine kdq [0] ?_ (hc := h3) | refine kmq [0] ?_ (hc := h3) | refine ktq [0] ?_ (hc := h3)); rintro _ _ ⟨y, rfl, hy, rfl⟩; (simp only [go_sem]))
        repeat' (first | (first | (((first | apply sp1 | apply sp2 | apply sp3 | apply sp4 | apply sp5 | apply sp6 | apply sp7) <;> intro hb) <;> (simp only [go_sem, hb])) | ((first | apply wm_done | apply wt_done | apply wg_run | refine fk ?_ ?_) <;> (simp only [go_sem]))) | (first | refine cdq ?_ (hc := l2NumS _) | refine cmq ?_ (hc := l2NumS _) | refine ctq ?_ (hc := l2NumS _)); (simp only [go_sem]) | fail)
        exact hR _ (rat [] (hK := ⟨.num y, p + 3, rfl, fin p (by omega) y hy, rfl, by simp [E.tm, nd, Tm.size, Tm.sizes, noTy, Ty.size, Ty.sizes], by omega, rfl⟩))
end Go.Proofs.YtnaebafafhamjaaGreat
/- The reference's draws of terms: with operands; closed ones; spoiled ones. On shadows. -/
namespace Go.Proofs.YtnaebafafhamjaaGreat
open Go.RowKit Go.Proofs.Sh Go.Proofs.Grad
set_option maxRecDepth 100000
set_option maxHeartbeats 16000000
theorem fours {z : ByteArray} (h : z ∈ [nm 120, nm 121, nm 122, nm 102]) : ∃ y, z = nm y ∧ nmB y = true := by
  simp only [List.mem_cons, List.not_mem_nil, or_false] at h
  rcases h with rfl | rfl | rfl | rfl <;> exact ⟨_, rfl, by decide⟩
theorem l2Draw1 (bs : List Int) (hB : Bs bs) (p : Nat) (hp : p < 999980000) (l : List UInt8) (hl : l.length < 1000000) (hn : nms l) : ACl Tryz.prog 194 [.one (.ptr 2 0 0 0), .one (.sc (.string (bsOf l))), .one (.sc (.int .i64 1))] [(⟨2, 115, .mut, [[.sl (byR bs), .sc (.int .i64 ((p : Nat) : Int))]]⟩ : Blk)] (DrawsE bs p 4 4) := by
  have h1 := l2Atom bs hB p (by omega) l hl hn
  refine acl_in Tryz.func194 rfl isfn_194 (Nat.le_of_ble_eq_true rfl) (fun R hR => ?_); rw [Tryz.results194] at hR; refine wg_run ?_; (simp only [Tryz.f194, go_sem])
  ((first | refine kdq [0] ?_ (hc := h1) | refine kmq [0] ?_ (hc := h1) | refine ktq [0] ?_ (hc := h1)); rintro _ _ ⟨e, q, rfl, he, hc, hs, hq, rfl⟩; (simp only [go_sem]))
  exact hR _ (rat [] (hK := ⟨e, q, rfl, he, hc, hs, hq, rfl⟩))
theorem l2DrawN (bs : List Int) (hB : Bs bs) (d c n L : Nat) (hd : 1 ≤ d) (hd4 : d ≤ 8) (hc4 : 4 ≤ c) (hn4 : 4 ≤ n) (hnB : n ≤ 100000) (M : Nat) (hM : M + 40 + 3 * c ≤ 999980000) (hL : L < 900000)
    (ih : ∀ p, p < M + 40 + 3 * c → ∀ l : List UInt8, l.length ≤ L + 1 → nms l → ACl Tryz.prog 194 [.one (.ptr 2 0 0 0), .one (.sc (.string (bsOf l))), .one (.sc (.int .i64 (d : Nat)))] [(⟨2, 115, .mut, [[.sl (byR bs), .sc (.int .i64 ((p : Nat) : Int))]]⟩ : Blk)] (DrawsE bs p c n)) :
    ∀ p, p < M → ∀ l : List UInt8, l.length ≤ L → nms l → ACl Tryz.prog 194 [.one (.ptr 2 0 0 0), .one (.sc (.string (bsOf l))), .one (.sc (.int .i64 ((d + 1 : Nat) : Int)))] [(⟨2, 115, .mut, [[.sl (byR bs), .sc (.int .i64 ((p : Nat) : Int))]]⟩ : Blk)] (DrawsE bs p (40 + 3 * c) (40 + 3 * n)) := by
  intro p hp l hl hn
  have hd2 : decide (((d + 1 : Nat) : Int) < 2) = false := by simp; omega
  have hw : IntKind.i64.wrap (((d + 1 : Nat) : Int) - 1) = (d : Int) := by rw [IntWalk.i64_in _ (by omega)]; omega
  have h0 := pick bs hB p (by omega) 6 (by omega) (by omega)
  have h1 := l2Atom bs hB (p + 1) (by omega) l (by omega) hn
  have h2 := num bs hB (p + 1) (by omega) [6, 5, 7, 9, 13, 10, 11, 8, 12, 5, 6] (by decide) (by decide)
  have h3 := ofs bs hB (p + 2) (by omega) [nm 120, nm 121, nm 122, nm 102] (by decide) (by decide)
  have h4 := fun q (hq : q < 999990000) => num bs hB q (by omega) [2, 1, 3, 2] (by decide) (by decide)
  refine acl_in Tryz.func194 rfl isfn_194 (Nat.le_of_ble_eq_true rfl) (fun R hR => ?_); rw [Tryz.results194] at hR; refine wg_run ?_; (simp only [Tryz.f194, go_sem, hd2])
  repeat' (first | (first | (simp only [go_sem, hd2]) | (((first | apply sp1 | apply sp2 | apply sp3 | apply sp4 | apply sp5 | apply sp6 | apply sp7) <;> intro hb) <;> (simp only [go_sem, hb, hd2])) | ((first | apply wm_done | apply wt_done | apply wg_run | refine fk ?_ ?_) <;> (simp only [go_sem, hd2]))) | fail)
  ((first | refine kdq [0] ?_ (hc := h0) | refine kmq [0] ?_ (hc := h0) | refine ktq [0] ?_ (hc := h0)); rintro _ _ ⟨x, rfl, hx, hx1, rfl⟩; (simp only [go_sem]))
  repeat' (first | (first | (((first | apply sp1 | apply sp2 | apply sp3 | apply sp4 | apply sp5 | apply sp6 | apply sp7) <;> intro hb) <;> (simp only [go_sem, hb])) | ((first | apply wm_done | apply wt_done | apply wg_run | refine fk ?_ ?_) <;> (simp only [go_sem]))) | fail)
  · ((first | refine kdq [0] ?_ (hc := h1) | refine kmq [0] ?_ (hc := h1) | refine ktq [0] ?_ (hc := h1)); rintro _ _ ⟨e, q, rfl, he, hc, hs, hq, rfl⟩; (simp only [go_sem]))
    exact hR _ (rat [] (hK := ⟨e, q, rfl, he, hc, by omega, by omega, rfl⟩))
  · ((first | refine kdq [0] ?_ (hc := h2) | refine kmq [0] ?_ (hc := h2) | refine ktq [0] ?_ (hc := h2)); rintro _ _ ⟨z, rfl, hz, rfl⟩; (simp only [go_sem]))
    clear h0 h1 h2
    simp only [List.mem_cons, List.not_mem_nil, or_false] at hz
    have hz : z = 5 ∨ z = 13 ∨ z = 9 ∨ (z = 11 ∨ z = 12) ∨ (z = 6 ∨ z = 7 ∨ z = 8 ∨ z = 10) := by omega
    rcases hz with rfl | rfl | rfl | (rfl | rfl) | (rfl | rfl | rfl | rfl)
    · (simp only [go_sem])
      repeat' (first | (first | (((first | apply sp1 | apply sp2 | apply sp3 | apply sp4 | apply sp5 | apply sp6 | apply sp7) <;> intro hb) <;> (simp only [go_sem, hb])) | ((first | apply wm_done | apply wt_done | apply wg_run | refine fk ?_ ?_) <;> (simp only [go_sem]))) | fail)
      ((first | refine kdq [0] ?_ (hc := h3) | refine kmq [0] ?_ (hc := h3) | refine ktq [0] ?_ (hc := h3)); rintro _ _ ⟨y, rfl, hy, rfl⟩; (simp only [go_sem]))
      obtain ⟨y, rfl, hyb⟩ := fours hy
      have ha := l2Add l (by omega) hn y hyb
      repeat' (first | (first | (((first | apply sp1 | apply sp2 | apply sp3 | apply sp4 | apply sp5 | apply sp6 | apply sp7) <;> intro hb) <;> (simp only [go_sem, hb])) | ((first | apply wm_done | apply wt_done | apply wg_run | refine fk ?_ ?_) <;> (simp only [go_sem]))) | ((first | refine kdq [] ?_ (hc := ha) | refine kmq [] ?_ (hc := ha) | refine ktq [] ?_ (hc := ha)); rintro _ _ ⟨m, rfl, hm, hml, rfl⟩ <;> (simp only [go_sem])) | fail)
      ((first | refine kdq [0] ?_ (hc := h4 _ (by omega)) | refine kmq [0] ?_ (hc := h4 _ (by omega)) | refine ktq [0] ?_ (hc := h4 _ (by omega))); rintro _ _ ⟨z, rfl, hz, rfl⟩; (simp only [go_sem]))
      simp only [List.mem_cons, List.not_mem_nil, or_false] at hz
      obtain ⟨j, rfl, hj1, hj4⟩ : ∃ j : Nat, z = (j : Int) ∧ 1 ≤ j ∧ j ≤ 3 := ⟨z.toNat, by omega, by omega, by omega⟩
      ((first | refine kdq [0] ?_ (hc := l1Draw bs hB j hj1 (by omega) _ (by omega)) | refine kmq [0] ?_ (hc := l1Draw bs hB j hj1 (by omega) _ (by omega)) | refine ktq [0] ?_ (hc := l1Draw bs hB j hj1 (by omega) _ (by omega))); rintro _ _ ⟨x1, p1, rfl, hx1, hp1, rfl⟩; (simp only [go_sem]))
      repeat' (first | (first | (((first | apply sp1 | apply sp2 | apply sp3 | apply sp4 | apply sp5 | apply sp6 | apply sp7) <;> intro hb) <;> (simp only [go_sem, hb])) | ((first | apply wm_done | apply wt_done | apply wg_run | refine fk ?_ ?_) <;> (simp only [go_sem]))) | (first | refine cdq ?_ (hc := l2Kids _) | refine cmq ?_ (hc := l2Kids _) | refine ctq ?_ (hc := l2Kids _)); (simp only [go_sem]) | (first | (refine wl_next (wg_run ?_); (simp only [go_sem])) | refine wd_rounds 6 ?_) | ((first | refine mxq6 [0] ?_ | refine mxq5 [0] ?_ | refine mxq4 [0] ?_ | refine mxq3 [0] ?_ | refine mxq2 [0] ?_ | refine mxq1 [0] ?_ | refine mxq0 [0] ?_ | fail); (simp only [go_sem])))
      (simp only [go_sem, hw])
      ((first | refine kdq [0] ?_ (hc := ih _ (by omega) m (by omega) hm) | refine kmq [0] ?_ (hc := ih _ (by omega) m (by omega) hm) | refine ktq [0] ?_ (hc := ih _ (by omega) m (by omega) hm)); rintro _ _ ⟨a, p2, rfl, ha1, ha2, ha3, hp2, rfl⟩; (simp only [go_sem]))
      repeat' (first | (first | (((first | apply sp1 | apply sp2 | apply sp3 | apply sp4 | apply sp5 | apply sp6 | apply sp7) <;> intro hb) <;> (simp only [go_sem, hb])) | ((first | apply wm_done | apply wt_done | apply wg_run | refine fk ?_ ?_) <;> (simp only [go_sem]))) | (first | refine cdq ?_ (hc := l2Kids _) | refine cmq ?_ (hc := l2Kids _) | refine ctq ?_ (hc := l2Kids _)); (simp only [go_sem]) | (first | (refine wl_next (wg_run ?_); (simp only [go_sem])) | refine wd_rounds 6 ?_) | ((first | refine mxq6 [0] ?_ | refine mxq5 [0] ?_ | refine mxq4 [0] ?_ | refine mxq3 [0] ?_ | refine mxq2 [0] ?_ | refine mxq1 [0] ?_ | refine mxq0 [0] ?_ | fail); (simp only [go_sem])))
      have hxs := T.ty_size x1
      have hx9 := tys 3 x1 (by omega)
      exact hR _ (rat [] (hK := ⟨.lam y x1 a, p2, rfl, by simp only [E.wf, Bool.and_eq_true, decide_eq_true_eq]; exact ⟨hyb, by omega, ha1⟩, ha2, by simp [E.tm, Tm.size, Tm.sizes, noTy, Ty.size, Ty.sizes]; omega, by omega, rfl⟩))
    · (simp only [go_sem])
      repeat' (first | (first | (((first | apply sp1 | apply sp2 | apply sp3 | apply sp4 | apply sp5 | apply sp6 | apply sp7) <;> intro hb) <;> (simp only [go_sem, hb])) | ((first | apply wm_done | apply wt_done | apply wg_run | refine fk ?_ ?_) <;> (simp only [go_sem]))) | fail)
      ((first | refine kdq [0] ?_ (hc := h4 _ (by omega)) | refine kmq [0] ?_ (hc := h4 _ (by omega)) | refine ktq [0] ?_ (hc := h4 _ (by omega))); rintro _ _ ⟨z, rfl, hz, rfl⟩; (simp only [go_sem]))
      simp only [List.mem_cons, List.not_mem_nil, or_false] at hz
      obtain ⟨j, rfl, hj1, hj4⟩ : ∃ j : Nat, z = (j : Int) ∧ 1 ≤ j ∧ j ≤ 3 := ⟨z.toNat, by omega, by omega, by omega⟩
      ((first | refine kdq [0] ?_ (hc := l1Draw bs hB j hj1 (by omega) _ (by omega)) | refine kmq [0] ?_ (hc := l1Draw bs hB j hj1 (by omega) _ (by omega)) | refine ktq [0] ?_ (hc := l1Draw bs hB j hj1 (by omega) _ (by omega))); rintro _ _ ⟨x1, p1, rfl, hx1, hp1, rfl⟩; (simp only [go_sem]))
      repeat' (first | (first | (((first | apply sp1 | apply sp2 | apply sp3 | apply sp4 | apply sp5 | apply sp6 | apply sp7) <;> intro hb) <;> (simp only [go_sem, hb])) | ((first | apply wm_done | apply wt_done | apply wg_run | refine fk ?_ ?_) <;> (simp only [go_sem]))) | (first | refine cdq ?_ (hc := l2Kids _) | refine cmq ?_ (hc := l2Kids _) | refine ctq ?_ (hc := l2Kids _)); (simp only [go_sem]) | (first | (refine wl_next (wg_run ?_); (simp only [go_sem])) | refine wd_rounds 6 ?_) | ((first | refine mxq6 [0] ?_ | refine mxq5 [0] ?_ | refine mxq4 [0] ?_ | refine mxq3 [0] ?_ | refine mxq2 [0] ?_ | refine mxq1 [0] ?_ | refine mxq0 [0] ?_ | fail); (simp only [go_sem])))
      (simp only [go_sem, hw])
      ((first | refine kdq [0] ?_ (hc := ih _ (by omega) l (by omega) hn) | refine kmq [0] ?_ (hc := ih _ (by omega) l (by omega) hn) | refine ktq [0] ?_ (hc := ih _ (by omega) l (by omega) hn)); rintro _ _ ⟨a, p2, rfl, ha1, ha2, ha3, hp2, rfl⟩; (simp only [go_sem]))
      repeat' (first | (first | (((first | apply sp1 | apply sp2 | apply sp3 | apply sp4 | apply sp5 | apply sp6 | apply sp7) <;> intro hb) <;> (simp only [go_sem, hb])) | ((first | apply wm_done | apply wt_done | apply wg_run | refine fk ?_ ?_) <;> (simp only [go_sem]))) | (first | refine cdq ?_ (hc := l2Kids _) | refine cmq ?_ (hc := l2Kids _) | refine ctq ?_ (hc := l2Kids _)); (simp only [go_sem]) | (first | (refine wl_next (wg_run ?_); (simp only [go_sem])) | refine wd_rounds 6 ?_) | ((first | refine mxq6 [0] ?_ | refine mxq5 [0] ?_ | refine mxq4 [0] ?_ | refine mxq3 [0] ?_ | refine mxq2 [0] ?_ | refine mxq1 [0] ?_ | refine mxq0 [0] ?_ | fail); (simp only [go_sem])))
      have hxs := T.ty_size x1
      have hx9 := tys 3 x1 (by omega)
      exact hR _ (rat [] (hK := ⟨.asc x1 a, p2, rfl, by simp only [E.wf, Bool.and_eq_true, decide_eq_true_eq]; exact ⟨by omega, ha1⟩, ha2, by simp [E.tm, Tm.size, Tm.sizes, noTy, Ty.size, Ty.sizes]; omega, by omega, rfl⟩))
    · (simp only [go_sem])
      repeat' (first | (first | (((first | apply sp1 | apply sp2 | apply sp3 | apply sp4 | apply sp5 | apply sp6 | apply sp7) <;> intro hb) <;> (simp only [go_sem, hb])) | ((first | apply wm_done | apply wt_done | apply wg_run | refine fk ?_ ?_) <;> (simp only [go_sem]))) | (first | refine cdq ?_ (hc := l2Kids _) | refine cmq ?_ (hc := l2Kids _) | refine ctq ?_ (hc := l2Kids _)); (simp only [go_sem]) | (first | (refine wl_next (wg_run ?_); (simp only [go_sem])) | refine wd_rounds 6 ?_) | ((first | refine mxq6 [0] ?_ | refine mxq5 [0] ?_ | refine mxq4 [0] ?_ | refine mxq3 [0] ?_ | refine mxq2 [0] ?_ | refine mxq1 [0] ?_ | refine mxq0 [0] ?_ | fail); (simp only [go_sem])))
      (simp only [go_sem, hw])
      ((first | refine kdq [0] ?_ (hc := ih _ (by omega) l (by omega) hn) | refine kmq [0] ?_ (hc := ih _ (by omega) l (by omega) hn) | refine ktq [0] ?_ (hc := ih _ (by omega) l (by omega) hn)); rintro _ _ ⟨a, p2, rfl, ha1, ha2, ha3, hp2, rfl⟩; (simp only [go_sem]))
      repeat' (first | (first | (((first | apply sp1 | apply sp2 | apply sp3 | apply sp4 | apply sp5 | apply sp6 | apply sp7) <;> intro hb) <;> (simp only [go_sem, hb])) | ((first | apply wm_done | apply wt_done | apply wg_run | refine fk ?_ ?_) <;> (simp only [go_sem]))) | (first | refine cdq ?_ (hc := l2Kids _) | refine cmq ?_ (hc := l2Kids _) | refine ctq ?_ (hc := l2Kids _)); (simp only [go_sem]) | (first | (refine wl_next (wg_run ?_); (simp only [go_sem])) | refine wd_rounds 6 ?_) | ((first | refine mxq6 [0] ?_ | refine mxq5 [0] ?_ | refine mxq4 [0] ?_ | refine mxq3 [0] ?_ | refine mxq2 [0] ?_ | refine mxq1 [0] ?_ | refine mxq0 [0] ?_ | fail); (simp only [go_sem])))
      (simp only [go_sem, hw])
      ((first | refine kdq [0] ?_ (hc := ih _ (by omega) l (by omega) hn) | refine kmq [0] ?_ (hc := ih _ (by omega) l (by omega) hn) | refine ktq [0] ?_ (hc := ih _ (by omega) l (by omega) hn)); rintro _ _ ⟨b, p3, rfl, hb1, hb2, hb3, hp3, rfl⟩; (simp only [go_sem]))
      repeat' (first | (first | (((first | apply sp1 | apply sp2 | apply sp3 | apply sp4 | apply sp5 | apply sp6 | apply sp7) <;> intro hb) <;> (simp only [go_sem, hb])) | ((first | apply wm_done | apply wt_done | apply wg_run | refine fk ?_ ?_) <;> (simp only [go_sem]))) | (first | refine cdq ?_ (hc := l2Kids _) | refine cmq ?_ (hc := l2Kids _) | refine ctq ?_ (hc := l2Kids _)); (simp only [go_sem]) | (first | (refine wl_next (wg_run ?_); (simp only [go_sem])) | refine wd_rounds 6 ?_) | ((first | refine mxq6 [0] ?_ | refine mxq5 [0] ?_ | refine mxq4 [0] ?_ | refine mxq3 [0] ?_ | refine mxq2 [0] ?_ | refine mxq1 [0] ?_ | refine mxq0 [0] ?_ | fail); (simp only [go_sem])))
      (simp only [go_sem, hw])
      ((first | refine kdq [0] ?_ (hc := ih _ (by omega) l (by omega) hn) | refine kmq [0] ?_ (hc := ih _ (by omega) l (by omega) hn) | refine ktq [0] ?_ (hc := ih _ (by omega) l (by omega) hn)); rintro _ _ ⟨c, p4, rfl, hc1, hc2, hc3, hp4, rfl⟩; (simp only [go_sem]))
      repeat' (first | (first | (((first | apply sp1 | apply sp2 | apply sp3 | apply sp4 | apply sp5 | apply sp6 | apply sp7) <;> intro hb) <;> (simp only [go_sem, hb])) | ((first | apply wm_done | apply wt_done | apply wg_run | refine fk ?_ ?_) <;> (simp only [go_sem]))) | (first | refine cdq ?_ (hc := l2Kids _) | refine cmq ?_ (hc := l2Kids _) | refine ctq ?_ (hc := l2Kids _)); (simp only [go_sem]) | (first | (refine wl_next (wg_run ?_); (simp only [go_sem])) | refine wd_rounds 6 ?_) | ((first | refine mxq6 [0] ?_ | refine mxq5 [0] ?_ | refine mxq4 [0] ?_ | refine mxq3 [0] ?_ | refine mxq2 [0] ?_ | refine mxq1 [0] ?_ | refine mxq0 [0] ?_ | fail); (simp only [go_sem])))
      exact hR _ (rat [] (hK := ⟨.ite a b c, p4, rfl, by simp only [E.wf, Bool.and_eq_true]; exact ⟨ha1, hb1, hc1⟩, by simp only [E.noC, Bool.and_eq_true]; exact ⟨ha2, hb2, hc2⟩, by simp [E.tm, nd, Tm.size, Tm.sizes, noTy, Ty.size, Ty.sizes]; omega, by omega, rfl⟩))
    all_goals
      (simp only [go_sem])
      repeat' (first | (first | (((first | apply sp1 | apply sp2 | apply sp3 | apply sp4 | apply sp5 | apply sp6 | apply sp7) <;> intro hb) <;> (simp only [go_sem, hb])) | ((first | apply wm_done | apply wt_done | apply wg_run | refine fk ?_ ?_) <;> (simp only [go_sem]))) | (first | refine cdq ?_ (hc := l2Kids _) | refine cmq ?_ (hc := l2Kids _) | refine ctq ?_ (hc := l2Kids _)); (simp only [go_sem]) | (first | (refine wl_next (wg_run ?_); (simp only [go_sem])) | refine wd_rounds 6 ?_) | ((first | refine mxq6 [0] ?_ | refine mxq5 [0] ?_ | refine mxq4 [0] ?_ | refine mxq3 [0] ?_ | refine mxq2 [0] ?_ | refine mxq1 [0] ?_ | refine mxq0 [0] ?_ | fail); (simp only [go_sem])))
      (simp only [go_sem, hw])
      ((first | refine kdq [0] ?_ (hc := ih _ (by omega) l (by omega) hn) | refine kmq [0] ?_ (hc := ih _ (by omega) l (by omega) hn) | refine ktq [0] ?_ (hc := ih _ (by omega) l (by omega) hn)); rintro _ _ ⟨a, p2, rfl, ha1, ha2, ha3, hp2, rfl⟩; (simp only [go_sem]))
      repeat' (first | (first | (((first | apply sp1 | apply sp2 | apply sp3 | apply sp4 | apply sp5 | apply sp6 | apply sp7) <;> intro hb) <;> (simp only [go_sem, hb])) | ((first | apply wm_done | apply wt_done | apply wg_run | refine fk ?_ ?_) <;> (simp only [go_sem]))) | (first | refine cdq ?_ (hc := l2Kids _) | refine cmq ?_ (hc := l2Kids _) | refine ctq ?_ (hc := l2Kids _)); (simp only [go_sem]) | (first | (refine wl_next (wg_run ?_); (simp only [go_sem])) | refine wd_rounds 6 ?_) | ((first | refine mxq6 [0] ?_ | refine mxq5 [0] ?_ | refine mxq4 [0] ?_ | refine mxq3 [0] ?_ | refine mxq2 [0] ?_ | refine mxq1 [0] ?_ | refine mxq0 [0] ?_ | fail); (simp only [go_sem])))
      first
        | exact hR _ (rat [] (hK := ⟨.fst a, p2, rfl, ha1, ha2, by simp [E.tm, nd, Tm.size, Tm.sizes, noTy, Ty.size, Ty.sizes]; omega, by omega, rfl⟩))
        | exact hR _ (rat [] (hK := ⟨.snd a, p2, rfl, ha1, ha2, by simp [E.tm, nd, Tm.size, Tm.sizes, noTy, Ty.size, Ty.sizes]; omega, by omega, rfl⟩))
        | skip
    all_goals
      (simp only [go_sem, hw])
      ((first | refine kdq [0] ?_ (hc := ih _ (by omega) l (by omega) hn) | refine kmq [0] ?_ (hc := ih _ (by omega) l (by omega) hn) | refine ktq [0] ?_ (hc := ih _ (by omega) l (by omega) hn)); rintro _ _ ⟨b, p3, rfl, hb1, hb2, hb3, hp3, rfl⟩; (simp only [go_sem]))
      repeat' (first | (first | (((first | apply sp1 | apply sp2 | apply sp3 | apply sp4 | apply sp5 | apply sp6 | apply sp7) <;> intro hb) <;> (simp only [go_sem, hb])) | ((first | apply wm_done | apply wt_done | apply wg_run | refine fk ?_ ?_) <;> (simp only [go_sem]))) | (first | refine cdq ?_ (hc := l2Kids _) | refine cmq ?_ (hc := l2Kids _) | refine ctq ?_ (hc := l2Kids _)); (simp only [go_sem]) | (first | (refine wl_next (wg_run ?_); (simp only [go_sem])) | refine wd_rounds 6 ?_) | ((first | refine mxq6 [0] ?_ | refine mxq5 [0] ?_ | refine mxq4 [0] ?_ | refine mxq3 [0] ?_ | refine mxq2 [0] ?_ | refine mxq1 [0] ?_ | refine mxq0 [0] ?_ | fail); (simp only [go_sem])))
      first
        | exact hR _ (rat [] (hK := ⟨.app a b, p3, rfl, by simp only [E.wf, Bool.and_eq_true]; exact ⟨ha1, hb1⟩, by simp only [E.noC, Bool.and_eq_true]; exact ⟨ha2, hb2⟩, by simp [E.tm, nd, Tm.size, Tm.sizes, noTy, Ty.size, Ty.sizes]; omega, by omega, rfl⟩))
        | exact hR _ (rat [] (hK := ⟨.add a b, p3, rfl, by simp only [E.wf, Bool.and_eq_true]; exact ⟨ha1, hb1⟩, by simp only [E.noC, Bool.and_eq_true]; exact ⟨ha2, hb2⟩, by simp [E.tm, nd, Tm.size, Tm.sizes, noTy, Ty.size, Ty.sizes]; omega, by omega, rfl⟩))
        | exact hR _ (rat [] (hK := ⟨.less a b, p3, rfl, by simp only [E.wf, Bool.and_eq_true]; exact ⟨ha1, hb1⟩, by simp only [E.noC, Bool.and_eq_true]; exact ⟨ha2, hb2⟩, by simp [E.tm, nd, Tm.size, Tm.sizes, noTy, Ty.size, Ty.sizes]; omega, by omega, rfl⟩))
        | exact hR _ (rat [] (hK := ⟨.pair a b, p3, rfl, by simp only [E.wf, Bool.and_eq_true]; exact ⟨ha1, hb1⟩, by simp only [E.noC, Bool.and_eq_true]; exact ⟨ha2, hb2⟩, by simp [E.tm, nd, Tm.size, Tm.sizes, noTy, Ty.size, Ty.sizes]; omega, by omega, rfl⟩))
theorem l2Draw (bs : List Int) (hB : Bs bs) (d : Nat) (hd : 1 ≤ d) (hd5 : d ≤ 5) (p : Nat) (hp : p < 999900000) (l : List UInt8) (hl : l.length ≤ 10) (hn : nms l) : ACl Tryz.prog 194 [.one (.ptr 2 0 0 0), .one (.sc (.string (bsOf l))), .one (.sc (.int .i64 (d : Nat)))] [(⟨2, 115, .mut, [[.sl (byR bs), .sc (.int .i64 ((p : Nat) : Int))]]⟩ : Blk)] (DrawsE bs p 2000 2000) := by
  have h1 : ∀ p, p < 999979000 → ∀ l : List UInt8, l.length ≤ 14 → nms l → ACl Tryz.prog 194 [.one (.ptr 2 0 0 0), .one (.sc (.string (bsOf l))), .one (.sc (.int .i64 ((1 : Nat) : Int)))] [(⟨2, 115, .mut, [[.sl (byR bs), .sc (.int .i64 ((p : Nat) : Int))]]⟩ : Blk)] (DrawsE bs p 4 4) := fun p hp l hl hn => l2Draw1 bs hB p (by omega) l (by omega) hn
  have h2 := l2DrawN bs hB 1 4 4 13 (by omega) (by omega) (by omega) (by omega) (by omega) 999970000 (by omega) (by omega) (fun p hp => h1 p (by omega))
  have h3 := l2DrawN bs hB 2 52 52 12 (by omega) (by omega) (by omega) (by omega) (by omega) 999960000 (by omega) (by omega) (fun p hp => h2 p (by omega))
  have h4 := l2DrawN bs hB 3 196 196 11 (by omega) (by omega) (by omega) (by omega) (by omega) 999950000 (by omega) (by omega) (fun p hp => h3 p (by omega))
  have h5 := l2DrawN bs hB 4 628 628 10 (by omega) (by omega) (by omega) (by omega) (by omega) 999940000 (by omega) (by omega) (fun p hp => h4 p (by omega))
  obtain rfl | rfl | rfl | rfl | rfl : d = 1 ∨ d = 2 ∨ d = 3 ∨ d = 4 ∨ d = 5 := by omega
  · exact (h1 p (by omega) l (by omega) hn).mono fun r H' h => h.mono (by omega) (by omega)
  · exact (h2 p (by omega) l (by omega) hn).mono fun r H' h => h.mono (by omega) (by omega)
  · exact (h3 p (by omega) l (by omega) hn).mono fun r H' h => h.mono (by omega) (by omega)
  · exact (h4 p (by omega) l (by omega) hn).mono fun r H' h => h.mono (by omega) (by omega)
  · exact (h5 p (by omega) l (by omega) hn).mono fun r H' h => h.mono (by omega) (by omega)
theorem l2Closed (bs : List Int) (hB : Bs bs) (p : Nat) (hp : p < 999800000) : ACl Tryz.prog 154 [.one (.ptr 2 0 0 0)] [(⟨2, 115, .mut, [[.sl (byR bs), .sc (.int .i64 ((p : Nat) : Int))]]⟩ : Blk)] (DrawsE bs p 2010 2000) := by
  have h1 := num bs hB p (by omega) [4, 3, 5, 4, 2] (by decide) (by decide)
  refine acl_in Tryz.func154 rfl isfn_154 (Nat.le_of_ble_eq_true rfl) (fun R hR => ?_); rw [Tryz.results154] at hR; refine wg_run ?_; (simp only [Tryz.f154, go_sem])
  ((first | refine kdq [0] ?_ (hc := h1) | refine kmq [0] ?_ (hc := h1) | refine ktq [0] ?_ (hc := h1)); rintro _ _ ⟨z, rfl, hz, rfl⟩; (simp only [go_sem]))
  simp only [List.mem_cons, List.not_mem_nil, or_false] at hz
  obtain ⟨d, rfl, hd1, hd4⟩ : ∃ d : Nat, z = (d : Int) ∧ 1 ≤ d ∧ d ≤ 5 := ⟨z.toNat, by omega, by omega, by omega⟩
  ((first | refine kdq [0] ?_ (hc := l2Draw bs hB d hd1 hd4 (p + 1) (by omega) [] (by simp) (by intro b hb; simp at hb)) | refine kmq [0] ?_ (hc := l2Draw bs hB d hd1 hd4 (p + 1) (by omega) [] (by simp) (by intro b hb; simp at hb)) | refine ktq [0] ?_ (hc := l2Draw bs hB d hd1 hd4 (p + 1) (by omega) [] (by simp) (by intro b hb; simp at hb))); rintro _ _ ⟨e, q, rfl, he, hc, hs, hq, rfl⟩; (simp only [go_sem]))
  have hv := sTermV e.tm (by omega)
  repeat' (first | (first | (((first | apply sp1 | apply sp2 | apply sp3 | apply sp4 | apply sp5 | apply sp6 | apply sp7) <;> intro hb) <;> (simp only [go_sem, hb])) | ((first | apply wm_done | apply wt_done | apply wg_run | refine fk ?_ ?_) <;> (simp only [go_sem]))) | (first | refine cdq ?_ (hc := hv) | refine cmq ?_ (hc := hv) | refine ctq ?_ (hc := hv)); (simp only [go_sem]) | (first | refine cdq ?_ (hc := l2NumS _) | refine cmq ?_ (hc := l2NumS _) | refine ctq ?_ (hc := l2NumS _)); (simp only [go_sem]) | fail)
  · exact hR _ (rat [] (hK := ⟨e, q, rfl, he, hc, hs, by omega, rfl⟩))
  · exact hR _ (rat [] (hK := ⟨.num 3, q, rfl, by decide, rfl, by simp [E.tm, Tm.size, Tm.sizes, noTy, Ty.size, Ty.sizes], by omega, rfl⟩))
/-- a draw of some term, not too large -/
def DrawsX (bs : List Int) (p c n : Nat) (r : AV) (H' : List Blk) : Prop := ∃ (x : Tm) (p' : Nat), r = .agg (teC x) ∧ x.size ≤ n ∧ p' ≤ p + c ∧ H' = [(⟨2, 115, .mut, [[.sl (byR bs), .sc (.int .i64 ((p' : Nat) : Int))]]⟩ : Blk)]
theorem l2Mutate (bs : List Int) (hB : Bs bs) (p : Nat) (hp : p < 999800000) (t : Tm) (ht : t.size < 10000000) : ACl Tryz.prog 100 [.one (.ptr 2 0 0 0), .agg (teC t)] [(⟨2, 115, .mut, [[.sl (byR bs), .sc (.int .i64 ((p : Nat) : Int))]]⟩ : Blk)] (DrawsX bs p 40 (t.size + 100)) := by
  have hc := l2Copy 274877906944 (by omega) t (by omega)
  have h0 := pick bs hB p (by omega) 50 (by omega) (by omega)
  have h1 := num bs hB (p + 1) (by omega) [0, 15, 1, 6, 14, -1] (by decide) (by decide)
  have h2 := ofs bs hB (p + 1) (by omega) [nm 88, ⟨#[120, 121]⟩, ByteArray.empty, nm 120] (by decide) (by decide)
  have h3 := num bs hB (p + 1) (by omega) [1000, -1, 9223372036854775807, 5] (by decide) (by decide)
  have h4 := l1Type bs hB (p + 1) (by omega)
  have e : t.size = 1 + (t.type.size + t.frm.size + Tm.sizes t.kids) := by cases t; rfl
  have et := teC_eq t
  refine acl_in Tryz.func100 rfl isfn_100 (Nat.le_of_ble_eq_true rfl) (fun R hR => ?_); rw [Tryz.results100] at hR; refine wg_run ?_; (simp only [Tryz.f100, go_sem])
  repeat' (first | (first | (((first | apply sp1 | apply sp2 | apply sp3 | apply sp4 | apply sp5 | apply sp6 | apply sp7) <;> intro hb) <;> (simp only [go_sem, hb])) | ((first | apply wm_done | apply wt_done | apply wg_run | refine fk ?_ ?_) <;> (simp only [go_sem]))) | (first | refine cdq ?_ (hc := hc) | refine cmq ?_ (hc := hc) | refine ctq ?_ (hc := hc)); (simp only [go_sem]) | fail)
  ((first | refine kdq [0] ?_ (hc := h0) | refine kmq [0] ?_ (hc := h0) | refine ktq [0] ?_ (hc := h0)); rintro _ _ ⟨x, rfl, hx, hx1, rfl⟩; (simp only [go_sem]))
  repeat' (first | (first | (simp only [go_sem, et]) | (((first | apply sp1 | apply sp2 | apply sp3 | apply sp4 | apply sp5 | apply sp6 | apply sp7) <;> intro hb) <;> (simp only [go_sem, hb, et])) | ((first | apply wm_done | apply wt_done | apply wg_run | refine fk ?_ ?_) <;> (simp only [go_sem, et]))) | fail)
  · ((first | refine kdq [0] ?_ (hc := h1) | refine kmq [0] ?_ (hc := h1) | refine ktq [0] ?_ (hc := h1)); rintro _ _ ⟨z, rfl, hz, rfl⟩; (simp only [go_sem]))
    repeat' (first | (first | (simp only [go_sem, et]) | (((first | apply sp1 | apply sp2 | apply sp3 | apply sp4 | apply sp5 | apply sp6 | apply sp7) <;> intro hb) <;> (simp only [go_sem, hb, et])) | ((first | apply wm_done | apply wt_done | apply wg_run | refine fk ?_ ?_) <;> (simp only [go_sem, et]))) | ((first | refine mxq6 [] ?_ | refine mxq5 [] ?_ | refine mxq4 [] ?_ | refine mxq3 [] ?_ | refine mxq2 [] ?_ | refine mxq1 [] ?_ | refine mxq0 [] ?_ | fail); (simp only [go_sem, et])) | fail)
    exact hR _ (rat [] (hK := ⟨.mk z t.name t.num t.type t.frm t.label t.kids, p + 2, by rw [teC_eq]; rfl, by simp only [Tm.size]; omega, by omega, rfl⟩))
  · ((first | refine kdq [0] ?_ (hc := h2) | refine kmq [0] ?_ (hc := h2) | refine ktq [0] ?_ (hc := h2)); rintro _ _ ⟨z, rfl, hz, rfl⟩; (simp only [go_sem]))
    repeat' (first | (first | (simp only [go_sem, et]) | (((first | apply sp1 | apply sp2 | apply sp3 | apply sp4 | apply sp5 | apply sp6 | apply sp7) <;> intro hb) <;> (simp only [go_sem, hb, et])) | ((first | apply wm_done | apply wt_done | apply wg_run | refine fk ?_ ?_) <;> (simp only [go_sem, et]))) | ((first | refine mxq6 [] ?_ | refine mxq5 [] ?_ | refine mxq4 [] ?_ | refine mxq3 [] ?_ | refine mxq2 [] ?_ | refine mxq1 [] ?_ | refine mxq0 [] ?_ | fail); (simp only [go_sem, et])) | fail)
    exact hR _ (rat [] (hK := ⟨.mk t.kind z t.num t.type t.frm t.label t.kids, p + 2, by rw [teC_eq]; rfl, by simp only [Tm.size]; omega, by omega, rfl⟩))
  · ((first | refine kdq [0] ?_ (hc := h3) | refine kmq [0] ?_ (hc := h3) | refine ktq [0] ?_ (hc := h3)); rintro _ _ ⟨z, rfl, hz, rfl⟩; (simp only [go_sem]))
    repeat' (first | (first | (simp only [go_sem, et]) | (((first | apply sp1 | apply sp2 | apply sp3 | apply sp4 | apply sp5 | apply sp6 | apply sp7) <;> intro hb) <;> (simp only [go_sem, hb, et])) | ((first | apply wm_done | apply wt_done | apply wg_run | refine fk ?_ ?_) <;> (simp only [go_sem, et]))) | ((first | refine mxq6 [] ?_ | refine mxq5 [] ?_ | refine mxq4 [] ?_ | refine mxq3 [] ?_ | refine mxq2 [] ?_ | refine mxq1 [] ?_ | refine mxq0 [] ?_ | fail); (simp only [go_sem, et])) | fail)
    exact hR _ (rat [] (hK := ⟨.mk t.kind t.name z t.type t.frm t.label t.kids, p + 2, by rw [teC_eq]; rfl, by simp only [Tm.size]; omega, by omega, rfl⟩))
  · ((first | refine kdq [0] ?_ (hc := h4) | refine kmq [0] ?_ (hc := h4) | refine ktq [0] ?_ (hc := h4)); rintro _ _ ⟨x1, q, rfl, hx1, hq, rfl⟩; (simp only [go_sem]))
    have hx9 := tys 4 x1 hx1
    have hm := l1Mutate bs hB q (by omega) x1.ty (by rw [T.ty_size]; omega)
    ((first | refine kdq [0] ?_ (hc := hm) | refine kmq [0] ?_ (hc := hm) | refine ktq [0] ?_ (hc := hm)); rintro _ _ ⟨y, q2, rfl, hy, hq2, rfl⟩; (simp only [go_sem]))
    rw [T.ty_size] at hy
    repeat' (first | (first | (simp only [go_sem, et]) | (((first | apply sp1 | apply sp2 | apply sp3 | apply sp4 | apply sp5 | apply sp6 | apply sp7) <;> intro hb) <;> (simp only [go_sem, hb, et])) | ((first | apply wm_done | apply wt_done | apply wg_run | refine fk ?_ ?_) <;> (simp only [go_sem, et]))) | ((first | refine mxq6 [] ?_ | refine mxq5 [] ?_ | refine mxq4 [] ?_ | refine mxq3 [] ?_ | refine mxq2 [] ?_ | refine mxq1 [] ?_ | refine mxq0 [] ?_ | fail); (simp only [go_sem, et])) | fail)
    exact hR _ (rat [] (hK := ⟨.mk t.kind t.name t.num y t.frm t.label t.kids, q2, by rw [teC_eq]; rfl, by simp only [Tm.size]; omega, by omega, rfl⟩))
  · exact hR _ (rat [] (hK := ⟨.mk t.kind t.name t.num t.type t.frm 1 t.kids, p + 1, by rw [teC_eq]; rfl, by simp only [Tm.size]; omega, by omega, rfl⟩))
  · repeat' (first | (first | (simp only [go_sem, et]) | (((first | apply sp1 | apply sp2 | apply sp3 | apply sp4 | apply sp5 | apply sp6 | apply sp7) <;> intro hb) <;> (simp only [go_sem, hb, et])) | ((first | apply wm_done | apply wt_done | apply wg_run | refine fk ?_ ?_) <;> (simp only [go_sem, et]))) | (first | refine cdq ?_ (hc := l1Any) | refine cmq ?_ (hc := l1Any) | refine ctq ?_ (hc := l1Any)); (simp only [go_sem]) | fail)
    exact hR _ (rat [] (hK := ⟨.mk t.kind t.name t.num t.type (.mk 1 []) t.label t.kids, p + 1, by rw [teC_eq]; rfl, by simp only [Tm.size, Ty.size, Ty.sizes]; omega, by omega, rfl⟩))
  · exact hR _ (rat [] (hK := ⟨t, p + 1, by rw [teC_eq], by omega, by omega, rfl⟩))
end Go.Proofs.YtnaebafafhamjaaGreat
/- Typing of terms without casts: contexts and rules. No program, no world. -/
namespace Go.Proofs.Grad
abbrev Ctx := List (UInt8 × T)
/-- the last binding of a name -/
def look1 : Ctx → UInt8 → Option T
  | [], _ => none
  | (y, t) :: l, x => match look1 l x with | some u => some u | none => match y == x with | true => some t | false => none
def T.meet : T → T → T
  | .any, b => b
  | .fn a b, .fn c d => .fn (a.meet c) (b.meet d)
  | .pr a b, .pr c d => .pr (a.meet c) (b.meet d)
  | a, _ => a
theorem T.meet_depth (a : T) : ∀ b : T, (a.meet b).depth ≤ max a.depth b.depth := by
  induction a with
  | fn a1 a2 ih1 ih2 | pr a1 a2 ih1 ih2 =>
    intro b
    cases b with
    | fn b1 b2 | pr b1 b2 => have h1 := ih1 b1; have h2 := ih2 b2; simp only [T.meet, T.depth] at *; omega
    | _ => simp only [T.meet, T.depth]; omega
  | any => intro b; simp only [T.meet]; omega
  | _ => intro b; cases b <;> simp only [T.meet, T.depth] <;> omega
def T.mfn : T → Option (T × T) | .any => some (.any, .any) | .fn a b => some (a, b) | _ => none
def T.mpr : T → Option (T × T) | .any => some (.any, .any) | .pr a b => some (a, b) | _ => none
def twoF (a b : T) : Option T := match decide ((T.fn a b).depth ≤ 4) with | true => some (.fn a b) | false => none
def twoP (a b : T) : Option T := match decide ((T.pr a b).depth ≤ 4) with | true => some (.pr a b) | false => none
def rApp (s u : T) : Option T := match s.mfn with | some (p, q) => (match u.cons p with | true => some q | false => none) | none => none
def rNum (r s u : T) : Option T := match s.cons .int with | true => (match u.cons .int with | true => some r | false => none) | false => none
def rIte (s u v : T) : Option T := match u.cons v with | true => (match s.cons .bool with | true => some (u.meet v) | false => none) | false => none
def rFst (s : T) : Option T := match s.mpr with | some (p, _) => some p | none => none
def rSnd (s : T) : Option T := match s.mpr with | some (_, q) => some q | none => none
def rAsc (t s : T) : Option T := match s.cons t with | true => some t | false => none
/-- the type of a term without casts -/
def E.rty : E → Ctx → Option T
  | .var x, Γ => look1 Γ x
  | .num _, _ => some .int
  | .tru, _ => some .bool
  | .fls, _ => some .bool
  | .lam x t a, Γ => match a.rty (Γ ++ [(x, t)]) with | some u => twoF t u | none => none
  | .app a b, Γ => match a.rty Γ with | some s => (match b.rty Γ with | some u => rApp s u | none => none) | none => none
  | .add a b, Γ => match a.rty Γ with | some s => (match b.rty Γ with | some u => rNum .int s u | none => none) | none => none
  | .less a b, Γ => match a.rty Γ with | some s => (match b.rty Γ with | some u => rNum .bool s u | none => none) | none => none
  | .ite a b c, Γ => match a.rty Γ with | some s => (match b.rty Γ with | some u => (match c.rty Γ with | some v => rIte s u v | none => none) | none => none) | none => none
  | .pair a b, Γ => match a.rty Γ with | some s => (match b.rty Γ with | some u => twoP s u | none => none) | none => none
  | .fst a, Γ => match a.rty Γ with | some s => rFst s | none => none
  | .snd a, Γ => match a.rty Γ with | some s => rSnd s | none => none
  | .asc t a, Γ => match a.rty Γ with | some s => rAsc t s | none => none
  | .cast _ _ _ _, _ => none
def ctxOk (Γ : Ctx) : Prop := ∀ b ∈ Γ, b.2.depth ≤ 4
theorem ctxOk_nil : ctxOk [] := by intro b h; simp at h
theorem ctxOk_snoc {Γ : Ctx} {x : UInt8} {t : T} (h : ctxOk Γ) (ht : t.depth ≤ 4) : ctxOk (Γ ++ [(x, t)]) := by
  intro b hb
  rcases List.mem_append.1 hb with hb | hb
  · exact h b hb
  · simp at hb; subst hb; exact ht
theorem look1_depth {Γ : Ctx} {x : UInt8} {t : T} (h : ctxOk Γ) (hl : look1 Γ x = some t) : t.depth ≤ 4 := by
  induction Γ with
  | nil => simp [look1] at hl
  | cons b Γ ih =>
    obtain ⟨y, u⟩ := b
    simp only [look1] at hl
    split at hl
    · rename_i u' hu
      obtain rfl := Option.some.inj hl
      exact ih (fun b hb => h b (by simp [hb])) hu
    · split at hl
      · obtain rfl := Option.some.inj hl; exact h (y, u) (by simp)
      · simp at hl
theorem T.mfn_depth {s p q : T} (h : s.mfn = some (p, q)) (hs : s.depth ≤ 4) : p.depth ≤ 4 ∧ q.depth ≤ 4 := by
  cases s <;> simp only [T.mfn, Option.some.injEq, Prod.mk.injEq, reduceCtorEq] at h
  · obtain ⟨rfl, rfl⟩ := h; decide
  · obtain ⟨rfl, rfl⟩ := h; simp only [T.depth] at hs; omega
theorem T.mpr_depth {s p q : T} (h : s.mpr = some (p, q)) (hs : s.depth ≤ 4) : p.depth ≤ 4 ∧ q.depth ≤ 4 := by
  cases s <;> simp only [T.mpr, Option.some.injEq, Prod.mk.injEq, reduceCtorEq] at h
  · obtain ⟨rfl, rfl⟩ := h; decide
  · obtain ⟨rfl, rfl⟩ := h; simp only [T.depth] at hs; omega
theorem twoF_depth {a b t : T} (h : twoF a b = some t) : t.depth ≤ 4 := by
  unfold twoF at h; split at h
  · rename_i hd; obtain rfl := Option.some.inj h; exact of_decide_eq_true hd
  · cases h
theorem twoP_depth {a b t : T} (h : twoP a b = some t) : t.depth ≤ 4 := by
  unfold twoP at h; split at h
  · rename_i hd; obtain rfl := Option.some.inj h; exact of_decide_eq_true hd
  · cases h
theorem rApp_depth {s u t : T} (h : rApp s u = some t) (hs : s.depth ≤ 4) : t.depth ≤ 4 := by
  unfold rApp at h; split at h
  · rename_i p q hm
    split at h
    · obtain rfl := Option.some.inj h; exact (T.mfn_depth hm hs).2
    · cases h
  · cases h
theorem rNum_depth {r s u t : T} (h : rNum r s u = some t) (hr : r.depth ≤ 4) : t.depth ≤ 4 := by
  unfold rNum at h; split at h
  · split at h
    · obtain rfl := Option.some.inj h; exact hr
    · cases h
  · cases h
theorem rIte_depth {s u v t : T} (h : rIte s u v = some t) (hu : u.depth ≤ 4) (hv : v.depth ≤ 4) : t.depth ≤ 4 := by
  unfold rIte at h; split at h
  · split at h
    · obtain rfl := Option.some.inj h; have := T.meet_depth u v; omega
    · cases h
  · cases h
theorem rFst_depth {s t : T} (h : rFst s = some t) (hs : s.depth ≤ 4) : t.depth ≤ 4 := by
  unfold rFst at h; split at h
  · rename_i hm; obtain rfl := Option.some.inj h; exact (T.mpr_depth hm hs).1
  · cases h
theorem rSnd_depth {s t : T} (h : rSnd s = some t) (hs : s.depth ≤ 4) : t.depth ≤ 4 := by
  unfold rSnd at h; split at h
  · rename_i hm; obtain rfl := Option.some.inj h; exact (T.mpr_depth hm hs).2
  · cases h
theorem rAsc_depth {s u t : T} (h : rAsc u s = some t) (hu : u.depth ≤ 4) : t.depth ≤ 4 := by
  unfold rAsc at h; split at h
  · obtain rfl := Option.some.inj h; exact hu
  · cases h
theorem E.rty_depth (e : E) : ∀ (Γ : Ctx) (t : T), e.wf = true → ctxOk Γ → e.rty Γ = some t → t.depth ≤ 4 := by
  induction e with
  | var x => intro Γ t hw hc h; exact look1_depth hc h
  | num _ | tru | fls => intro Γ t hw hc h; simp only [E.rty, Option.some.injEq] at h; subst h; decide
  | lam x u a ih =>
    intro Γ t hw hc h
    simp only [E.rty] at h
    split at h
    · exact twoF_depth h
    · cases h
  | app a b iha ihb =>
    intro Γ t hw hc h
    simp only [E.wf, Bool.and_eq_true] at hw
    simp only [E.rty] at h
    split at h
    · rename_i s hs
      split at h
      · exact rApp_depth h (iha _ _ hw.1 hc hs)
      · cases h
    · cases h
  | add a b iha ihb | less a b iha ihb =>
    intro Γ t hw hc h
    simp only [E.rty] at h
    split at h
    · split at h
      · exact rNum_depth h (by decide)
      · cases h
    · cases h
  | ite a b c iha ihb ihc =>
    intro Γ t hw hc h
    simp only [E.wf, Bool.and_eq_true] at hw
    simp only [E.rty] at h
    split at h
    · split at h
      · rename_i u hu
        split at h
        · rename_i v hv
          exact rIte_depth h (ihb _ _ hw.2.1 hc hu) (ihc _ _ hw.2.2 hc hv)
        · cases h
      · cases h
    · cases h
  | pair a b iha ihb =>
    intro Γ t hw hc h
    simp only [E.rty] at h
    split at h
    · split at h
      · exact twoP_depth h
      · cases h
    · cases h
  | fst a ih =>
    intro Γ t hw hc h
    simp only [E.wf] at hw
    simp only [E.rty] at h
    split at h
    · rename_i s hs; exact rFst_depth h (ih _ _ hw hc hs)
    · cases h
  | snd a ih =>
    intro Γ t hw hc h
    simp only [E.wf] at hw
    simp only [E.rty] at h
    split at h
    · rename_i s hs; exact rSnd_depth h (ih _ _ hw hc hs)
    · cases h
  | asc u a ih =>
    intro Γ t hw hc h
    simp only [E.wf, Bool.and_eq_true, decide_eq_true_eq] at hw
    simp only [E.rty] at h
    split at h
    · exact rAsc_depth h hw.1
    · cases h
  | cast _ _ _ _ _ => intro Γ t hw hc h; simp [E.rty] at h
end Go.Proofs.Grad
