/- The walks of the laws of subtyping: FnNaiveSubtype. -/
import Derived.Test.YtkkijdlgmlffoaaDrs
import Derived.Test.YtkkijdlgmlffoaaTyQ
import Derived.Test.YtkkijdlgmlffoaaPlw
namespace Go.Proofs.Ytkkijdlgmlffoaa
open Go.RowKit Go.Proofs.Grad

theorem onT_prec (a b : Ty) : onT T.prec a b = (onT T.pos a b && onT T.neg b a) := by
  by_cases ha : a.valid = true
  · by_cases hb : b.valid = true
    · obtain ⟨x, rfl, hx⟩ := (Ty.valid_iff a).1 ha
      obtain ⟨y, rfl, hy⟩ := (Ty.valid_iff b).1 hb
      rw [onT_ty _ hx hy, onT_ty _ hx hy, onT_ty _ hy hx, T.prec_eq]
    · rw [onT_and T.prec, onT_and T.pos, Bool.eq_false_iff.2 hb]; simp
  · rw [onT_and T.prec, onT_and T.pos, Bool.eq_false_iff.2 ha]; simp

set_option maxHeartbeats 2000000 in
theorem naive_walk (w : World) (q : Option Addr) (n c : Nat) (hB : Bytes w q n c) : Calls Try.prog 7 #[.slice q n c] w (RetB w true) := by
  have hn := hB.1
  have hcap : c ≤ 9223372036854775807 := hB.2.1
  have HB := Lib.hid hB; clear hB
  by_cases hl : 1048576 < n
  · have hl2 : (1048576 : Int) < n := by omega
    go_enter Try.func7, Try.ntmps7
    go_wp2_with fail
    go_ret
    exact ⟨rfl, Below.refl _ _⟩
  · have hl2 : ¬ (1048576 : Int) < n := by omega
    go_enter Try.func7, Try.ntmps7
    go_wp2_with fail
    refine (drawPair [] w q n c HB.out (by simp)).mono ?_
    rintro e w1 ⟨x, y, qx, qy, cx, cy, rfl, hxs, hys, hx, hy, hb⟩
    have A1 := Lib.hid (fun (w' : World) (E : Ext w1 w') => iSubPos x y w' qx cx qy cy (hx.keep (Keep.of_below E.below)) (hy.keep (Keep.of_below E.below)))
    have A2 := Lib.hid (fun (w' : World) (E : Ext w1 w') => iSubNeg y x w' qy cy qx cx (hy.keep (Keep.of_below E.below)) (hx.keep (Keep.of_below E.below)))
    have A3 := Lib.hid (fun (w' : World) (E : Ext w1 w') => sSubPos x y w' qx cx qy cy (hx.keep (Keep.of_below E.below)) (hy.keep (Keep.of_below E.below)))
    have A4 := Lib.hid (fun (w' : World) (E : Ext w1 w') => sSubNeg y x w' qy cy qx cx (hy.keep (Keep.of_below E.below)) (hx.keep (Keep.of_below E.below)))
    have A5 := Lib.hid (fun (w' : World) (E : Ext w1 w') => iPrec x y w' qx cx qy cy (hx.keep (Keep.of_below E.below)) (hy.keep (Keep.of_below E.below)))
    rw [onT_prec] at A5
    generalize onT T.pos x y = bp at *
    generalize onT T.neg y x = bn at *
    have HBW := Lib.hid hb
    clear hx hy hb
    have P0 : ((w1.alloc (.cells #[.int .i64 x.kind, .slice qx x.kids.length cx] 29 (0, 0))).alloc (.cells #[.int .i64 y.kind, .slice qy y.kids.length cy] 29 (0, 0))).cell? ⟨w1.heap.size, 0, none⟩ = some (.int .i64 x.kind) ∧
        ((w1.alloc (.cells #[.int .i64 x.kind, .slice qx x.kids.length cx] 29 (0, 0))).alloc (.cells #[.int .i64 y.kind, .slice qy y.kids.length cy] 29 (0, 0))).cell? ⟨w1.heap.size, 1, none⟩ = some (.slice qx x.kids.length cx) ∧
        ((w1.alloc (.cells #[.int .i64 x.kind, .slice qx x.kids.length cx] 29 (0, 0))).alloc (.cells #[.int .i64 y.kind, .slice qy y.kids.length cy] 29 (0, 0))).cell? ⟨w1.heap.size + 1, 0, none⟩ = some (.int .i64 y.kind) ∧
        ((w1.alloc (.cells #[.int .i64 x.kind, .slice qx x.kids.length cx] 29 (0, 0))).alloc (.cells #[.int .i64 y.kind, .slice qy y.kids.length cy] 29 (0, 0))).cell? ⟨w1.heap.size + 1, 1, none⟩ = some (.slice qy y.kids.length cy) := by
      refine ⟨?_, ?_, ?_, ?_⟩ <;> simp
    have PP := Lib.hid P0; clear P0
    have D0 := Ext.refl ((w1.alloc (.cells #[.int .i64 x.kind, .slice qx x.kids.length cx] 29 (0, 0))).alloc (.cells #[.int .i64 y.kind, .slice qy y.kids.length cy] 29 (0, 0)))
    have D0e := ((Ext.refl w1).alloc (.cells #[.int .i64 x.kind, .slice qx x.kids.length cx] 29 (0, 0))).alloc (.cells #[.int .i64 y.kind, .slice qy y.kids.length cy] 29 (0, 0))
    go_wp2_with fail
    cases bp <;> cases bn
    all_goals
      refine (A1.out _ D0e).mono ?_
      rintro e w2 ⟨rfl, hb⟩
      have D1 := D0.trans hb
      have D1e := D0e.trans hb
      obtain ⟨a0, a1, b0, b1⟩ := D1.cell4 PP.out
      clear hb
      go_wp2_with fail
      refine (A2.out _ D1e).mono ?_
      rintro e w3 ⟨rfl, hb⟩
      have D2 := D1.trans hb
      have D2e := D1e.trans hb
      obtain ⟨a0, a1, b0, b1⟩ := D2.cell4 PP.out
      clear hb
      go_wp2_with fail
      refine (A3.out _ D2e).mono ?_
      rintro e w4 ⟨rfl, hb⟩
      have D3 := D2.trans hb
      have D3e := D2e.trans hb
      obtain ⟨a0, a1, b0, b1⟩ := D3.cell4 PP.out
      clear hb
      go_wp2_with fail
      refine (A4.out _ D3e).mono ?_
      rintro e w5 ⟨rfl, hb⟩
      have D4 := D3.trans hb
      have D4e := D3e.trans hb
      obtain ⟨a0, a1, b0, b1⟩ := D4.cell4 PP.out
      clear hb
      go_wp2_with fail
      refine (A5.out _ D4e).mono ?_
      rintro e w6 ⟨rfl, hb⟩
      have D5 := D4.trans hb
      have D5e := D4e.trans hb
      obtain ⟨a0, a1, b0, b1⟩ := D5.cell4 PP.out
      clear hb
      go_wp2_with fail
      go_ret
      exact ⟨by simp, HBW.out.trans (D5e.below.mono HBW.out.size)⟩
end Go.Proofs.Ytkkijdlgmlffoaa
