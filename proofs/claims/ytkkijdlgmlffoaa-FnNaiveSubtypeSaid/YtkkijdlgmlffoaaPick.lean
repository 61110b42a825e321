/- The walks of the reference's reader. -/
import Derived.Test.YtkkijdlgmlffoaaRows
import Derived.Test.YtkkijdlgmlffoaaDrw
import Derived.IntWalk
import Derived.Laws.BitsAllLaws
namespace Go.Proofs.Ytkkijdlgmlffoaa
open Go.RowKit Go.Proofs.Grad

theorem i64_xor (a b : Nat) (ha : a < 9223372036854775808) (hb : b < 9223372036854775808) : bits .xor .i64 (a : Int) (b : Int) = ((a ^^^ b : Nat) : Int) := by
  have hx : a ^^^ b < 2 ^ 63 := Nat.xor_lt_two_pow (by omega) (by omega)
  show IntKind.i64.wrap ((BitVec.ofInt 64 (a : Int) ^^^ BitVec.ofInt 64 (b : Int)).toNat : Int) = _
  rw [BitVec.toNat_xor, ofInt_u64 a (by omega), ofInt_u64 b (by omega), IntKind.wrap_i64]
  omega

/-- a drawn number -/
def PickR (w : World) (r N : Nat) (n : Int) (e : Ending) (w' : World) : Prop :=
  ∃ z : Int, e = .returned (.int .i64 z) ∧ 0 ≤ z ∧ (z < n ∨ z = 0) ∧ Bel [r] w w' ∧ Rd w' r N 61

set_option maxHeartbeats 1000000 in
theorem pick (r N : Nat) (hN : N ≤ 1099511627776) (n : Int) (hn1 : -1099511627776 ≤ n) (hn2 : n ≤ 1099511627776) (w : World) (hr : Rd w r N 61) :
    Calls Try.prog 48 #[.pointer (some ⟨r, 0, none⟩), .int .i64 n] w (PickR w r (N + 1) n) := by
  obtain ⟨q, m, c, p, h1, h2, h3, h4, h5, h6⟩ := hr
  have c0 := cell_of_heap (o := 0) h1 rfl
  have c1 := cell_of_heap (o := 1) h1 rfl
  have f1 := free_of_heap (o := 1) h1
  have hlt := lt_of_heap h1
  have hc : c ≤ 9223372036854775807 := h5
  have hend : Rd (w.setCell ⟨r, 1, none⟩ (.int .i64 ((p : Int) + 1))) r (N + 1) 61 := by
    refine ⟨q, m, c, p + 1, ?_, by omega, h3, h4, h5, fun i hi => ?_⟩
    · have := heap_setCell_at (o := 1) h1 (.int .i64 ((p : Int) + 1))
      simpa using this
    · obtain ⟨b, off, x, g1, g2, g3, g4⟩ := h6 i hi
      refine ⟨b, off, x, g1, g2, ?_, g4⟩
      rw [World.cell?_of_block (Below.heap_setCell w ⟨r, 1, none⟩ _ b (by simp; omega))]; exact g3
  have HE := Lib.hid hend; clear hend
  have hbel : Bel [r] w (w.setCell ⟨r, 1, none⟩ (.int .i64 ((p : Int) + 1))) := (Bel.refl _ _).setCell (.inl (by simp)) _
  by_cases hz : n < 1
  · have hd : decide (n < 1) = true := by simp [hz]
    clear h6 hn1 hn2
    go_enter Try.func48, Try.ntmps48
    go_wp2_with fail
    go_ret
    exact ⟨0, rfl, Int.le_refl _, .inr rfl, hbel, HE.out⟩
  · have hd : decide (n < 1) = false := by simp; omega
    by_cases hm : m = 0
    · subst hm
      clear h6 hn1 hn2
      go_enter Try.func48, Try.ntmps48
      go_wp2_with fail
      go_ret
      exact ⟨0, rfl, Int.le_refl _, .inr rfl, hbel, HE.out⟩
    · have hm1 : ((m : Int) == 0) = false := by simp [hm]
      have hm2 : 0 < m := by omega
      by_cases hp : p < m
      · obtain ⟨b, off, x, rfl, g2', g3, g4, g5⟩ := h6 p hp
        have g2 : b ≠ r := by omega
        clear g2'
        have hpp : decide ((p : Int) < (m : Int)) = true := by simp [hp]
        have hnz : (n == 0) = false := by simp; omega
        have hrem : 0 ≤ x.tmod n ∧ x.tmod n < n := ⟨Int.tmod_nonneg _ g4, Int.tmod_lt_of_pos _ (by omega)⟩
        have hrem2 := Int.tmod_eq_emod_of_nonneg (b := n) g4
        clear h6
        go_enter Try.func48, Try.ntmps48
        go_wp2_with fail
        go_ret
        exact ⟨x % n, rfl, by omega, .inl (by omega), hbel, HE.out⟩
      · obtain ⟨b, off, x, rfl, g2'', g3, g4, g5⟩ := h6 (p % m) (Nat.mod_lt _ hm2)
        have g2 : b ≠ r := by omega
        clear g2''
        obtain ⟨b', off', y, e1, g2', g3', g4', g5'⟩ := h6 ((p * 7 + 3) % m) (Nat.mod_lt _ hm2)
        simp only [Option.some.injEq, Addr.mk.injEq, and_true] at e1
        obtain ⟨rfl, rfl⟩ := e1
        clear g2'
        have hpp : decide ((p : Int) < (m : Int)) = false := by simp; omega
        have hnz : (n == 0) = false := by simp; omega
        have hi1 : 0 ≤ (p : Int) % (m : Int) ∧ (p : Int) % (m : Int) < m := ⟨Int.emod_nonneg _ (by omega), Int.emod_lt_of_pos _ (by omega)⟩
        have hi2 : 0 ≤ ((p : Int) * 7 + 3) % (m : Int) ∧ ((p : Int) * 7 + 3) % (m : Int) < m := ⟨Int.emod_nonneg _ (by omega), Int.emod_lt_of_pos _ (by omega)⟩
        have hj1 : ((p : Int) % (m : Int)).toNat = p % m := by omega
        have hj2 : (((p : Int) * 7 + 3) % (m : Int)).toNat = (p * 7 + 3) % m := by
          rw [show ((p : Int) * 7 + 3) % (m : Int) = (((p * 7 + 3) % m : Nat) : Int) from by simp, Int.toNat_natCast]
        have hpq : (p : Int) ≤ 1099511627776 := by omega
        have hdv : 0 ≤ (p : Int) / (m : Int) ∧ (p : Int) / (m : Int) ≤ p := ⟨Int.ediv_nonneg (by omega) (by omega), Int.ediv_le_self _ (by omega)⟩
        have hp0 : (0 : Int) ≤ p := by omega
        have t1 : (p : Int).tmod (m : Int) = (p : Int) % (m : Int) := Int.tmod_eq_emod_of_nonneg hp0
        have t2 : ((p : Int) * 7 + 3).tmod (m : Int) = ((p : Int) * 7 + 3) % (m : Int) := Int.tmod_eq_emod_of_nonneg (by omega)
        have t3 : (p : Int).tdiv (m : Int) = (p : Int) / (m : Int) := Int.tdiv_eq_ediv_of_nonneg hp0
        generalize hdd : (p : Int) / (m : Int) = dd at *
        have w1 : IntKind.i64.wrap ((p : Int) * 7) = (p : Int) * 7 := IntWalk.i64_in _ (by omega)
        have w2 : IntKind.i64.wrap ((p : Int) * 7 + 3) = (p : Int) * 7 + 3 := IntWalk.i64_in _ (by omega)
        have w3 : IntKind.i64.wrap (x * 131) = x * 131 := IntWalk.i64_in _ (by omega)
        have w4 : IntKind.i64.wrap (y * 1117) = y * 1117 := IntWalk.i64_in _ (by omega)
        have w5 : IntKind.i64.wrap (x * 131 + y * 1117) = x * 131 + y * 1117 := IntWalk.i64_in _ (by omega)
        have w6 : IntKind.i64.wrap ((p : Int) * 29) = (p : Int) * 29 := IntWalk.i64_in _ (by omega)
        have w7 : IntKind.i64.wrap (x * 131 + y * 1117 + (p : Int) * 29) = x * 131 + y * 1117 + (p : Int) * 29 := IntWalk.i64_in _ (by omega)
        have w8 : IntKind.i64.wrap (dd * 53) = dd * 53 := IntWalk.i64_in _ (by omega)
        have w9 : IntKind.i64.wrap (x * 131 + y * 1117 + (p : Int) * 29 + dd * 53) = x * 131 + y * 1117 + (p : Int) * 29 + dd * 53 := IntWalk.i64_in _ (by omega)
        have wx : IntKind.i64.wrap x = x := IntWalk.i64_in _ (by omega)
        have wy : IntKind.i64.wrap y = y := IntWalk.i64_in _ (by omega)
        have wd : IntKind.i64.wrap dd = dd := IntWalk.i64_in _ (by omega)
        have hS : ∃ s : Nat, x * 131 + y * 1117 + (p : Int) * 29 + dd * 53 = (s : Int) ∧ s < 4611686018427387904 := ⟨(x * 131 + y * 1117 + (p : Int) * 29 + dd * 53).toNat, by omega, by omega⟩
        obtain ⟨s, hs, hs2⟩ := hS
        have HS := Lib.hid hs; clear hs
        clear h6 hdd
        go_enter Try.func48, Try.ntmps48
        go_wp2_with fail
        refine region_mix 0 (by kernel_rfl) (by kernel_rfl) ?_
        repeat (first | (refine mix_skip (by rfl) (fun K hK => ?_); go_simp; refine hK _ ?_; clear hK K) | (refine mix_free rfl (fun K hK => ?_); go_simp; refine hK _ ?_; clear hK K) | (refine mix_read rfl rfl (fun K hK => ?_); go_simp; refine hK _ ?_; clear hK K))
        refine mix_nil ?_
        rw [HS.out]
        clear w1 w2 w3 w4 w5 w6 w7 w8 w9 wx wy wd t1 t2 t3
        have hx : ∃ z : Nat, bits .xor .i64 (s : Int) ((s : Int) / 64) = (z : Int) := by
          exact ⟨s ^^^ (s / 64), i64_xor s (s / 64) (by omega) (by omega)⟩
        obtain ⟨z, hz2⟩ := hx
        have t4 : (z : Int).tmod n = (z : Int) % n := Int.tmod_eq_emod_of_nonneg (by omega)
        have hb2 : 0 ≤ (z : Int) % n ∧ (z : Int) % n < n := ⟨Int.emod_nonneg _ (by omega), Int.emod_lt_of_pos _ (by omega)⟩
        go_wp2_with fail
        go_ret
        exact ⟨(z : Int) % n, by simp [hz2, t4], by omega, .inl (by omega), hbel.drew, HE.out.keep ((Below.refl _ _).drew)⟩
end Go.Proofs.Ytkkijdlgmlffoaa
