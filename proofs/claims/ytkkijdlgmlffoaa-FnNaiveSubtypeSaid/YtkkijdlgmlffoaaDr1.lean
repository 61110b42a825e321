/- The walks of the reference's draws of types. -/
import Derived.Test.YtkkijdlgmlffoaaPick
import Derived.Test.YtkkijdlgmlffoaaTyG
import Derived.Test.YtkkijdlgmlffoaaTyV
namespace Go.Proofs.Ytkkijdlgmlffoaa
open Go.RowKit Go.Proofs.Grad

/-- a drawn number out of a list -/
def NumR (w : World) (r N : Nat) (xs : List Int) (e : Ending) (w' : World) : Prop :=
  ∃ x : Int, e = .returned (.int .i64 x) ∧ x ∈ xs ∧ Bel [r] w w' ∧ Rd w' r N 61

theorem num (r N : Nat) (hN : N ≤ 1099511627776) (xs : List Int) (hx : xs ≠ []) (hxl : xs.length ≤ 1000) (lb : Nat) (hlb : lb ≠ r) (T0 : TypeId) (w : World) (hr : Rd w r N 61) (hc : w.heap[lb]? = some (.cells (xs.map fun x => Value.int .i64 x).toArray T0 (0, 0))) :
    Calls Try.prog 66 #[.pointer (some ⟨r, 0, none⟩), .slice (some ⟨lb, 0, none⟩) xs.length xs.length] w (NumR w r (N + 1) xs) := by
  have hl0 : 0 < xs.length := List.length_pos_iff.2 hx
  have hp := pick r N hN xs.length (by omega) (by omega) w hr
  have HP := Lib.hid hp; clear hp
  have hlt := lt_of_heap hc
  go_enter Try.func66, Try.ntmps66
  go_wp2_with fail
  refine HP.out.mono ?_
  rintro e w1 ⟨z, rfl, hz0, hz1, hb, hr1⟩
  obtain ⟨k, rfl⟩ : ∃ k : Nat, z = k := ⟨z.toNat, by omega⟩
  have hk : k < xs.length := by omega
  have hcell : w1.cell? ⟨lb, k, none⟩ = some (.int .i64 xs[k]) := by
    have := hb.block lb hlt (by simpa using hlb)
    rw [hc] at this
    exact cell_of_heap this (by simp [hk])
  have hmem := List.getElem_mem hk
  generalize xs[k] = x at *
  have hki : (k : Int) < xs.length := by omega
  have HM := Lib.hid hmem; have HB := Lib.hid hb
  clear hmem hb hc hz1
  go_wp2_with fail
  go_ret
  exact ⟨x, rfl, HM.out, HB.out, hr1⟩

/-- a drawn type: valid, in new memory -/
def DrawR (w : World) (r N : Nat) (m : Nat) (e : Ending) (w' : World) : Prop :=
  ∃ (x : T) (q : Option Addr) (c : Nat), e = .returned (.agg #[.int .i64 x.ty.kind, .slice q x.ty.kids.length c]) ∧ x.depth ≤ m ∧ Fresh tid w w' (.sl 2 x.ty.kids.length (Ty.css x.ty.kids)) (.slice q x.ty.kids.length c) ∧ Bel [r] w w' ∧ Rd w' r N 61




theorem _root_.Go.Proofs.Grad.Bel.andThen {L : List Nat} {a w w' : World} {B : Nat} (h : Bel L a w) (k : Below B w w') (hB : a.heap.size ≤ B) : Bel L a w' :=
  ⟨k.os.trans h.os, k.tape.trans h.tape, k.output.trans h.output, Nat.le_trans h.size k.size, fun b hb hl => (k.block b (by omega)).trans (h.block b hb hl)⟩
theorem _root_.Go.Proofs.Grad.Bld.keepB {T : Nat → TypeId} {w w' : World} {base s n : Nat} {cs : List C} {v : Value} {r : Nat} (h : Bld T w base s n cs v) (hb : Bel [r] w w') (hr : r < base) : Bld T w' base s n cs v :=
  h.keep fun b h1 h2 => hb.block b h2 (by simp; omega)

def B (m : Nat) : Nat := 2 ^ (m + 1) - 1
theorem B_zero : B 0 = 1 := rfl
theorem B_succ (m : Nat) : B (m + 1) = 2 * B m + 1 := by
  unfold B
  have : 0 < 2 ^ (m + 1) := Nat.pow_pos (by omega)
  rw [Nat.pow_succ]; omega
theorem B_pos (m : Nat) : 1 ≤ B m := by cases m with | zero => decide | succ m => rw [B_succ]; omega

def DrawN (m : Nat) : Prop := ∀ (r N : Nat) (d : Int) (w : World), d ≤ m + 1 → -1000 ≤ d → d ≤ 1000 → N + B m ≤ 1099511627776 → Rd w r N 61 →
    Calls Try.prog 65 #[.pointer (some ⟨r, 0, none⟩), .int .i64 d] w (DrawR w r (N + B m) (m + 1))

theorem css_map_snoc (ts : List T) (x : T) : Ty.css ((ts ++ [x]).map T.ty) = Ty.css (ts.map T.ty) ++ x.ty.cs := by
  rw [Ty.css_eq, Ty.css_eq, List.map_append, List.flatMap_append]; simp


set_option maxHeartbeats 4000000 in
theorem draw_small (m : Nat) (r N : Nat) (d : Int) (w : World) (hd : d < 2) (hd1 : -1000 ≤ d) (hd2 : d ≤ 1000) (hN : N + B (m) ≤ 1099511627776) (hr : Rd w r N 61) :
    Calls Try.prog 65 #[.pointer (some ⟨r, 0, none⟩), .int .i64 d] w (DrawR w r (N + B (m)) (m + 1)) := by
  have hBm := B_pos (m)
  have hdd : decide (d < 2) = true := by simp; omega
  have hlt := hr.lt
  have hp := fun (w' : World) (h : Rd w' r N 61) (hc : w'.heap[w.heap.size + 1]? = some (.cells #[.int .i64 2, .int .i64 1, .int .i64 4, .int .i64 3, .int .i64 5, .int .i64 2, .int .i64 4] 3 (0, 0))) =>
    num r N (by omega) [2, 1, 4, 3, 5, 2, 4] (by simp) (by simp) (w.heap.size + 1) (by omega) 3 w' h hc
  have HP := Lib.hid hp; clear hp
  have HR := Lib.hid hr; clear hr
  go_enter Try.func65, Try.ntmps65
  go_wp2_with fail
  refine (HP.out _ (HR.out.keep ((Ext.refl w).alloc _ |>.alloc _).below) (by rw [show w.heap.size + 1 = (w.alloc _).heap.size from by simp]; exact heap_alloc_new _ _)).mono ?_
  rintro e w1 ⟨x, rfl, hx, hb, hr1⟩
  have B1 : Bel [r] w w1 := (Bel.of_ext ((Ext.refl w).alloc _ |>.alloc _)).trans hb
  have hs := hb.size
  simp at hs
  have h0 : w1.heap[w.heap.size]? = some (.cells #[.int .i64 0, .slice none 0 0] 29 (0, 0)) := by
    rw [hb.block _ (by simp; omega) (by simp; omega), Below.heap_alloc _ _ _ (by simp)]; exact heap_alloc_new _ _
  have hne0 : ¬ w.heap.size = r := by omega
  have hne1 : ¬ w1.heap.size = r := by omega
  have HX := Lib.hid hx; clear hx hb HP HR
  have hx := HX.out
  simp only [List.mem_cons, List.not_mem_nil, or_false] at hx
  clear HX
  rcases hx with rfl | rfl | rfl | rfl | rfl | rfl | rfl
  · skip
    go_wp2_with fail
    go_loopw [7] (fun iv wr => iv = .int .i64 0 ∧ Bel [r] w wr ∧ Rd wr r (N + 1) 61 ∧ wr.heap[w.heap.size]? = some (.cells #[.int .i64 0, .slice none 0 0] 29 (0, 0)) ∧ wr.heap[w1.heap.size]? = some (.cells #[.int .i64 2, .slice none 0 0] 29 (0, 0))) (fun _ _ => 0)
    case atStart => exact ⟨rfl, B1.alloc _, hr1.keep ((Ext.refl _).alloc _).below, by rw [Below.heap_alloc _ _ _ (by omega)]; exact h0, heap_alloc_new _ _⟩
    case round =>
      obtain ⟨rfl, hbl, hrd, g0, g1⟩ := hrel
      have c0 := cell_of_heap (o := 0) g0 rfl
      have c1 := cell_of_heap (o := 1) g0 rfl
      have f0 := free_of_heap (o := 0) g0
      have f1 := free_of_heap (o := 1) g0
      have d0 := cell_of_heap (o := 0) g1 rfl
      have d1 := cell_of_heap (o := 1) g1 rfl
      clear g0 g1 h0
      go_wp2_with fail
      refine (l1Kids 2 _).mono ?_
      rintro e w2 ⟨rfl, hb2⟩
      rw [show kidsN 2 = 0 from rfl]
      obtain ⟨hc2, hf2⟩ := bcell hb2
      have l0 := lt_of_cell c0
      have l1 := lt_of_cell d0
      have hrd2 := hrd.keep hb2
      have hbl2 := hbl.trans (Bel.of_below hb2)
      clear hb2 hrd hbl
      go_wp2_with fail
      refine bodyPost_ret (v := .agg #[.int .i64 2, .slice none 0 0]) (by simp [results, Try.results65, go_sem, *]) rfl ⟨.int, none, 0, rfl, by simp [T.depth], ⟨[], by simp [C.own, T.ty, Ty.kids, Ty.css], by simp, by simp⟩, (hbl2.setCell (.inr (by simp)) _).setCell (.inr (by simp)) _, ?_⟩
      exact ((hrd2.mono (by have := B_pos (m); omega)).setCell (by omega) _).setCell (by omega) _
  · skip
    go_wp2_with fail
    go_loopw [7] (fun iv wr => iv = .int .i64 0 ∧ Bel [r] w wr ∧ Rd wr r (N + 1) 61 ∧ wr.heap[w.heap.size]? = some (.cells #[.int .i64 0, .slice none 0 0] 29 (0, 0)) ∧ wr.heap[w1.heap.size]? = some (.cells #[.int .i64 1, .slice none 0 0] 29 (0, 0))) (fun _ _ => 0)
    case atStart => exact ⟨rfl, B1.alloc _, hr1.keep ((Ext.refl _).alloc _).below, by rw [Below.heap_alloc _ _ _ (by omega)]; exact h0, heap_alloc_new _ _⟩
    case round =>
      obtain ⟨rfl, hbl, hrd, g0, g1⟩ := hrel
      have c0 := cell_of_heap (o := 0) g0 rfl
      have c1 := cell_of_heap (o := 1) g0 rfl
      have f0 := free_of_heap (o := 0) g0
      have f1 := free_of_heap (o := 1) g0
      have d0 := cell_of_heap (o := 0) g1 rfl
      have d1 := cell_of_heap (o := 1) g1 rfl
      clear g0 g1 h0
      go_wp2_with fail
      refine (l1Kids 1 _).mono ?_
      rintro e w2 ⟨rfl, hb2⟩
      rw [show kidsN 1 = 0 from rfl]
      obtain ⟨hc2, hf2⟩ := bcell hb2
      have l0 := lt_of_cell c0
      have l1 := lt_of_cell d0
      have hrd2 := hrd.keep hb2
      have hbl2 := hbl.trans (Bel.of_below hb2)
      clear hb2 hrd hbl
      go_wp2_with fail
      refine bodyPost_ret (v := .agg #[.int .i64 1, .slice none 0 0]) (by simp [results, Try.results65, go_sem, *]) rfl ⟨.any, none, 0, rfl, by simp [T.depth], ⟨[], by simp [C.own, T.ty, Ty.kids, Ty.css], by simp, by simp⟩, (hbl2.setCell (.inr (by simp)) _).setCell (.inr (by simp)) _, ?_⟩
      exact ((hrd2.mono (by have := B_pos (m); omega)).setCell (by omega) _).setCell (by omega) _
  · skip
    go_wp2_with fail
    go_loopw [7] (fun iv wr => iv = .int .i64 0 ∧ Bel [r] w wr ∧ Rd wr r (N + 1) 61 ∧ wr.heap[w.heap.size]? = some (.cells #[.int .i64 0, .slice none 0 0] 29 (0, 0)) ∧ wr.heap[w1.heap.size]? = some (.cells #[.int .i64 1, .slice none 0 0] 29 (0, 0))) (fun _ _ => 0)
    case atStart => exact ⟨rfl, B1.alloc _, hr1.keep ((Ext.refl _).alloc _).below, by rw [Below.heap_alloc _ _ _ (by omega)]; exact h0, heap_alloc_new _ _⟩
    case round =>
      obtain ⟨rfl, hbl, hrd, g0, g1⟩ := hrel
      have c0 := cell_of_heap (o := 0) g0 rfl
      have c1 := cell_of_heap (o := 1) g0 rfl
      have f0 := free_of_heap (o := 0) g0
      have f1 := free_of_heap (o := 1) g0
      have d0 := cell_of_heap (o := 0) g1 rfl
      have d1 := cell_of_heap (o := 1) g1 rfl
      clear g0 g1 h0
      go_wp2_with fail
      refine (l1Kids 1 _).mono ?_
      rintro e w2 ⟨rfl, hb2⟩
      rw [show kidsN 1 = 0 from rfl]
      obtain ⟨hc2, hf2⟩ := bcell hb2
      have l0 := lt_of_cell c0
      have l1 := lt_of_cell d0
      have hrd2 := hrd.keep hb2
      have hbl2 := hbl.trans (Bel.of_below hb2)
      clear hb2 hrd hbl
      go_wp2_with fail
      refine bodyPost_ret (v := .agg #[.int .i64 1, .slice none 0 0]) (by simp [results, Try.results65, go_sem, *]) rfl ⟨.any, none, 0, rfl, by simp [T.depth], ⟨[], by simp [C.own, T.ty, Ty.kids, Ty.css], by simp, by simp⟩, (hbl2.setCell (.inr (by simp)) _).setCell (.inr (by simp)) _, ?_⟩
      exact ((hrd2.mono (by have := B_pos (m); omega)).setCell (by omega) _).setCell (by omega) _
  · skip
    go_wp2_with fail
    go_loopw [7] (fun iv wr => iv = .int .i64 0 ∧ Bel [r] w wr ∧ Rd wr r (N + 1) 61 ∧ wr.heap[w.heap.size]? = some (.cells #[.int .i64 0, .slice none 0 0] 29 (0, 0)) ∧ wr.heap[w1.heap.size]? = some (.cells #[.int .i64 3, .slice none 0 0] 29 (0, 0))) (fun _ _ => 0)
    case atStart => exact ⟨rfl, B1.alloc _, hr1.keep ((Ext.refl _).alloc _).below, by rw [Below.heap_alloc _ _ _ (by omega)]; exact h0, heap_alloc_new _ _⟩
    case round =>
      obtain ⟨rfl, hbl, hrd, g0, g1⟩ := hrel
      have c0 := cell_of_heap (o := 0) g0 rfl
      have c1 := cell_of_heap (o := 1) g0 rfl
      have f0 := free_of_heap (o := 0) g0
      have f1 := free_of_heap (o := 1) g0
      have d0 := cell_of_heap (o := 0) g1 rfl
      have d1 := cell_of_heap (o := 1) g1 rfl
      clear g0 g1 h0
      go_wp2_with fail
      refine (l1Kids 3 _).mono ?_
      rintro e w2 ⟨rfl, hb2⟩
      rw [show kidsN 3 = 0 from rfl]
      obtain ⟨hc2, hf2⟩ := bcell hb2
      have l0 := lt_of_cell c0
      have l1 := lt_of_cell d0
      have hrd2 := hrd.keep hb2
      have hbl2 := hbl.trans (Bel.of_below hb2)
      clear hb2 hrd hbl
      go_wp2_with fail
      refine bodyPost_ret (v := .agg #[.int .i64 3, .slice none 0 0]) (by simp [results, Try.results65, go_sem, *]) rfl ⟨.bool, none, 0, rfl, by simp [T.depth], ⟨[], by simp [C.own, T.ty, Ty.kids, Ty.css], by simp, by simp⟩, (hbl2.setCell (.inr (by simp)) _).setCell (.inr (by simp)) _, ?_⟩
      exact ((hrd2.mono (by have := B_pos (m); omega)).setCell (by omega) _).setCell (by omega) _
  · skip
    go_wp2_with fail
    go_loopw [7] (fun iv wr => iv = .int .i64 0 ∧ Bel [r] w wr ∧ Rd wr r (N + 1) 61 ∧ wr.heap[w.heap.size]? = some (.cells #[.int .i64 0, .slice none 0 0] 29 (0, 0)) ∧ wr.heap[w1.heap.size]? = some (.cells #[.int .i64 1, .slice none 0 0] 29 (0, 0))) (fun _ _ => 0)
    case atStart => exact ⟨rfl, B1.alloc _, hr1.keep ((Ext.refl _).alloc _).below, by rw [Below.heap_alloc _ _ _ (by omega)]; exact h0, heap_alloc_new _ _⟩
    case round =>
      obtain ⟨rfl, hbl, hrd, g0, g1⟩ := hrel
      have c0 := cell_of_heap (o := 0) g0 rfl
      have c1 := cell_of_heap (o := 1) g0 rfl
      have f0 := free_of_heap (o := 0) g0
      have f1 := free_of_heap (o := 1) g0
      have d0 := cell_of_heap (o := 0) g1 rfl
      have d1 := cell_of_heap (o := 1) g1 rfl
      clear g0 g1 h0
      go_wp2_with fail
      refine (l1Kids 1 _).mono ?_
      rintro e w2 ⟨rfl, hb2⟩
      rw [show kidsN 1 = 0 from rfl]
      obtain ⟨hc2, hf2⟩ := bcell hb2
      have l0 := lt_of_cell c0
      have l1 := lt_of_cell d0
      have hrd2 := hrd.keep hb2
      have hbl2 := hbl.trans (Bel.of_below hb2)
      clear hb2 hrd hbl
      go_wp2_with fail
      refine bodyPost_ret (v := .agg #[.int .i64 1, .slice none 0 0]) (by simp [results, Try.results65, go_sem, *]) rfl ⟨.any, none, 0, rfl, by simp [T.depth], ⟨[], by simp [C.own, T.ty, Ty.kids, Ty.css], by simp, by simp⟩, (hbl2.setCell (.inr (by simp)) _).setCell (.inr (by simp)) _, ?_⟩
      exact ((hrd2.mono (by have := B_pos (m); omega)).setCell (by omega) _).setCell (by omega) _
  · skip
    go_wp2_with fail
    go_loopw [7] (fun iv wr => iv = .int .i64 0 ∧ Bel [r] w wr ∧ Rd wr r (N + 1) 61 ∧ wr.heap[w.heap.size]? = some (.cells #[.int .i64 0, .slice none 0 0] 29 (0, 0)) ∧ wr.heap[w1.heap.size]? = some (.cells #[.int .i64 2, .slice none 0 0] 29 (0, 0))) (fun _ _ => 0)
    case atStart => exact ⟨rfl, B1.alloc _, hr1.keep ((Ext.refl _).alloc _).below, by rw [Below.heap_alloc _ _ _ (by omega)]; exact h0, heap_alloc_new _ _⟩
    case round =>
      obtain ⟨rfl, hbl, hrd, g0, g1⟩ := hrel
      have c0 := cell_of_heap (o := 0) g0 rfl
      have c1 := cell_of_heap (o := 1) g0 rfl
      have f0 := free_of_heap (o := 0) g0
      have f1 := free_of_heap (o := 1) g0
      have d0 := cell_of_heap (o := 0) g1 rfl
      have d1 := cell_of_heap (o := 1) g1 rfl
      clear g0 g1 h0
      go_wp2_with fail
      refine (l1Kids 2 _).mono ?_
      rintro e w2 ⟨rfl, hb2⟩
      rw [show kidsN 2 = 0 from rfl]
      obtain ⟨hc2, hf2⟩ := bcell hb2
      have l0 := lt_of_cell c0
      have l1 := lt_of_cell d0
      have hrd2 := hrd.keep hb2
      have hbl2 := hbl.trans (Bel.of_below hb2)
      clear hb2 hrd hbl
      go_wp2_with fail
      refine bodyPost_ret (v := .agg #[.int .i64 2, .slice none 0 0]) (by simp [results, Try.results65, go_sem, *]) rfl ⟨.int, none, 0, rfl, by simp [T.depth], ⟨[], by simp [C.own, T.ty, Ty.kids, Ty.css], by simp, by simp⟩, (hbl2.setCell (.inr (by simp)) _).setCell (.inr (by simp)) _, ?_⟩
      exact ((hrd2.mono (by have := B_pos (m); omega)).setCell (by omega) _).setCell (by omega) _
  · skip
    go_wp2_with fail
    go_loopw [7] (fun iv wr => iv = .int .i64 0 ∧ Bel [r] w wr ∧ Rd wr r (N + 1) 61 ∧ wr.heap[w.heap.size]? = some (.cells #[.int .i64 0, .slice none 0 0] 29 (0, 0)) ∧ wr.heap[w1.heap.size]? = some (.cells #[.int .i64 1, .slice none 0 0] 29 (0, 0))) (fun _ _ => 0)
    case atStart => exact ⟨rfl, B1.alloc _, hr1.keep ((Ext.refl _).alloc _).below, by rw [Below.heap_alloc _ _ _ (by omega)]; exact h0, heap_alloc_new _ _⟩
    case round =>
      obtain ⟨rfl, hbl, hrd, g0, g1⟩ := hrel
      have c0 := cell_of_heap (o := 0) g0 rfl
      have c1 := cell_of_heap (o := 1) g0 rfl
      have f0 := free_of_heap (o := 0) g0
      have f1 := free_of_heap (o := 1) g0
      have d0 := cell_of_heap (o := 0) g1 rfl
      have d1 := cell_of_heap (o := 1) g1 rfl
      clear g0 g1 h0
      go_wp2_with fail
      refine (l1Kids 1 _).mono ?_
      rintro e w2 ⟨rfl, hb2⟩
      rw [show kidsN 1 = 0 from rfl]
      obtain ⟨hc2, hf2⟩ := bcell hb2
      have l0 := lt_of_cell c0
      have l1 := lt_of_cell d0
      have hrd2 := hrd.keep hb2
      have hbl2 := hbl.trans (Bel.of_below hb2)
      clear hb2 hrd hbl
      go_wp2_with fail
      refine bodyPost_ret (v := .agg #[.int .i64 1, .slice none 0 0]) (by simp [results, Try.results65, go_sem, *]) rfl ⟨.any, none, 0, rfl, by simp [T.depth], ⟨[], by simp [C.own, T.ty, Ty.kids, Ty.css], by simp, by simp⟩, (hbl2.setCell (.inr (by simp)) _).setCell (.inr (by simp)) _, ?_⟩
      exact ((hrd2.mono (by have := B_pos (m); omega)).setCell (by omega) _).setCell (by omega) _

set_option maxHeartbeats 4000000 in
theorem draw_step (m : Nat) (ih : DrawN m) (r N : Nat) (d : Int) (w : World) (hd : ¬ d < 2 ∧ d ≤ m + 2) (hd1 : -1000 ≤ d) (hd2 : d ≤ 1000) (hN : N + B (m + 1) ≤ 1099511627776) (hr : Rd w r N 61) :
    Calls Try.prog 65 #[.pointer (some ⟨r, 0, none⟩), .int .i64 d] w (DrawR w r (N + B (m + 1)) (m + 1 + 1)) := by
  have hBm := B_pos (m + 1)
  have hdd : decide (d < 2) = false := by simp; omega
  have hlt := hr.lt
  have hp := fun (w' : World) (h : Rd w' r N 61) (hc : w'.heap[w.heap.size + 1]? = some (.cells #[.int .i64 2, .int .i64 1, .int .i64 4, .int .i64 3, .int .i64 5, .int .i64 2, .int .i64 4] 3 (0, 0))) =>
    num r N (by omega) [2, 1, 4, 3, 5, 2, 4] (by simp) (by simp) (w.heap.size + 1) (by omega) 3 w' h hc
  have HP := Lib.hid hp; clear hp
  have HR := Lib.hid hr; clear hr
  go_enter Try.func65, Try.ntmps65
  go_wp2_with fail
  refine (HP.out _ (HR.out.keep ((Ext.refl w).alloc _ |>.alloc _).below) (by rw [show w.heap.size + 1 = (w.alloc _).heap.size from by simp]; exact heap_alloc_new _ _)).mono ?_
  rintro e w1 ⟨x, rfl, hx, hb, hr1⟩
  have B1 : Bel [r] w w1 := (Bel.of_ext ((Ext.refl w).alloc _ |>.alloc _)).trans hb
  have hs := hb.size
  simp at hs
  have h0 : w1.heap[w.heap.size]? = some (.cells #[.int .i64 0, .slice none 0 0] 29 (0, 0)) := by
    rw [hb.block _ (by simp; omega) (by simp; omega), Below.heap_alloc _ _ _ (by simp)]; exact heap_alloc_new _ _
  have hne0 : ¬ w.heap.size = r := by omega
  have hne1 : ¬ w1.heap.size = r := by omega
  have HX := Lib.hid hx; clear hx hb HP HR
  have hx := HX.out
  simp only [List.mem_cons, List.not_mem_nil, or_false] at hx
  clear HX
  rcases hx with rfl | rfl | rfl | rfl | rfl | rfl | rfl
  · skip
    go_wp2_with fail
    go_loopw [7] (fun iv wr => iv = .int .i64 0 ∧ Bel [r] w wr ∧ Rd wr r (N + 1) 61 ∧ wr.heap[w.heap.size]? = some (.cells #[.int .i64 0, .slice none 0 0] 29 (0, 0)) ∧ wr.heap[w1.heap.size]? = some (.cells #[.int .i64 2, .slice none 0 0] 29 (0, 0))) (fun _ _ => 0)
    case atStart => exact ⟨rfl, B1.alloc _, hr1.keep ((Ext.refl _).alloc _).below, by rw [Below.heap_alloc _ _ _ (by omega)]; exact h0, heap_alloc_new _ _⟩
    case round =>
      obtain ⟨rfl, hbl, hrd, g0, g1⟩ := hrel
      have c0 := cell_of_heap (o := 0) g0 rfl
      have c1 := cell_of_heap (o := 1) g0 rfl
      have f0 := free_of_heap (o := 0) g0
      have f1 := free_of_heap (o := 1) g0
      have d0 := cell_of_heap (o := 0) g1 rfl
      have d1 := cell_of_heap (o := 1) g1 rfl
      clear g0 g1 h0
      go_wp2_with fail
      refine (l1Kids 2 _).mono ?_
      rintro e w2 ⟨rfl, hb2⟩
      rw [show kidsN 2 = 0 from rfl]
      obtain ⟨hc2, hf2⟩ := bcell hb2
      have l0 := lt_of_cell c0
      have l1 := lt_of_cell d0
      have hrd2 := hrd.keep hb2
      have hbl2 := hbl.trans (Bel.of_below hb2)
      clear hb2 hrd hbl
      go_wp2_with fail
      refine bodyPost_ret (v := .agg #[.int .i64 2, .slice none 0 0]) (by simp [results, Try.results65, go_sem, *]) rfl ⟨.int, none, 0, rfl, by simp [T.depth], ⟨[], by simp [C.own, T.ty, Ty.kids, Ty.css], by simp, by simp⟩, (hbl2.setCell (.inr (by simp)) _).setCell (.inr (by simp)) _, ?_⟩
      exact ((hrd2.mono (by have := B_pos (m + 1); omega)).setCell (by omega) _).setCell (by omega) _
  · skip
    go_wp2_with fail
    go_loopw [7] (fun iv wr => iv = .int .i64 0 ∧ Bel [r] w wr ∧ Rd wr r (N + 1) 61 ∧ wr.heap[w.heap.size]? = some (.cells #[.int .i64 0, .slice none 0 0] 29 (0, 0)) ∧ wr.heap[w1.heap.size]? = some (.cells #[.int .i64 1, .slice none 0 0] 29 (0, 0))) (fun _ _ => 0)
    case atStart => exact ⟨rfl, B1.alloc _, hr1.keep ((Ext.refl _).alloc _).below, by rw [Below.heap_alloc _ _ _ (by omega)]; exact h0, heap_alloc_new _ _⟩
    case round =>
      obtain ⟨rfl, hbl, hrd, g0, g1⟩ := hrel
      have c0 := cell_of_heap (o := 0) g0 rfl
      have c1 := cell_of_heap (o := 1) g0 rfl
      have f0 := free_of_heap (o := 0) g0
      have f1 := free_of_heap (o := 1) g0
      have d0 := cell_of_heap (o := 0) g1 rfl
      have d1 := cell_of_heap (o := 1) g1 rfl
      clear g0 g1 h0
      go_wp2_with fail
      refine (l1Kids 1 _).mono ?_
      rintro e w2 ⟨rfl, hb2⟩
      rw [show kidsN 1 = 0 from rfl]
      obtain ⟨hc2, hf2⟩ := bcell hb2
      have l0 := lt_of_cell c0
      have l1 := lt_of_cell d0
      have hrd2 := hrd.keep hb2
      have hbl2 := hbl.trans (Bel.of_below hb2)
      clear hb2 hrd hbl
      go_wp2_with fail
      refine bodyPost_ret (v := .agg #[.int .i64 1, .slice none 0 0]) (by simp [results, Try.results65, go_sem, *]) rfl ⟨.any, none, 0, rfl, by simp [T.depth], ⟨[], by simp [C.own, T.ty, Ty.kids, Ty.css], by simp, by simp⟩, (hbl2.setCell (.inr (by simp)) _).setCell (.inr (by simp)) _, ?_⟩
      exact ((hrd2.mono (by have := B_pos (m + 1); omega)).setCell (by omega) _).setCell (by omega) _
  · skip
    go_wp2_with fail
    go_loopw [7] (fun iv wr => ∃ (ts : List T) (v : Value), ts.length ≤ 2 ∧ iv = .int .i64 ts.length ∧ (∀ t ∈ ts, t.depth ≤ m + 1) ∧ Bld tid wr (w1.heap.size + 1) 2 ts.length (Ty.css (ts.map T.ty)) v ∧ Bel [r] w wr ∧ Rd wr r (N + 1 + ts.length * B m) 61 ∧ wr.heap[w.heap.size]? = some (.cells #[.int .i64 0, .slice none 0 0] 29 (0, 0)) ∧ wr.heap[w1.heap.size]? = some (.cells #[.int .i64 4, v] 29 (0, 0)) ∧ w1.heap.size < wr.heap.size) (fun iv _ => 2 - (intOf iv).toNat)
    case atStart => exact ⟨[], .slice none 0 0, by simp, rfl, by simp, Bld.start _ _ _ _, B1.alloc _, by simpa using hr1.keep ((Ext.refl _).alloc _).below, by rw [Below.heap_alloc _ _ _ (by omega)]; exact h0, heap_alloc_new _ _, by simp⟩
    case round =>
      obtain ⟨ts, v, hts, rfl, hdp, hB, hbl, hrd, g0, g1, hsz⟩ := hrel
      have c0 := cell_of_heap (o := 0) g0 rfl
      have c1 := cell_of_heap (o := 1) g0 rfl
      have d0 := cell_of_heap (o := 0) g1 rfl
      have d1 := cell_of_heap (o := 1) g1 rfl
      by_cases htl : ts.length < 2
      · have htl2 : (ts.length : Int) < 2 := by omega
        have G0 := Lib.hid g0; have G1 := Lib.hid g1; have HD := Lib.hid hdp
        clear g0 g1 h0 hdp
        go_wp2_with fail
        refine (l1Kids 4 _).mono ?_
        rintro e w2 ⟨rfl, hb2⟩
        rw [show kidsN 4 = 2 from rfl]
        obtain ⟨hc2, hf2⟩ := bcell hb2
        have e1 : w2.cell? ⟨w1.heap.size, 1, none⟩ = some v := by rw [hc2 _ _ hsz]; exact d1
        have hB2 := hB.below hb2
        have hrd2 := hrd.keep hb2
        have hbl2 := hbl.trans (Bel.of_below hb2)
        have hs2 := hb2.size
        have G02 : w2.heap[w.heap.size]? = some (.cells #[.int .i64 0, .slice none 0 0] 29 (0, 0)) := by rw [hb2.block _ (by omega)]; exact G0.out
        have G12 : w2.heap[w1.heap.size]? = some (.cells #[.int .i64 4, v] 29 (0, 0)) := by rw [hb2.block _ hsz]; exact G1.out
        have H02 := Lib.hid G02; have H12 := Lib.hid G12
        clear hb2 hB hrd hbl c0 c1 d0 d1 hc2 hf2 G0 G1 G02 G12
        have wd : IntKind.i64.wrap (d - 1) = d - 1 := IntWalk.i64_in _ (by omega)
        go_wp2_with fail
        refine region_mixL [r] 3 (by kernel_rfl) (by kernel_rfl) ?_
        repeat (first | (refine mixL_skip (by rfl) (fun K hK => ?_); go_simp; refine hK _ ?_; clear hK K) | (refine mixL_free rfl (fun K hK => ?_); go_simp; refine hK _ ?_; clear hK K) | (refine mixL_read rfl rfl (fun K hK => ?_); go_simp; refine hK _ ?_; clear hK K))
        (refine mixL_loud rfl (fun K K' hK hK' => ?_); go_simp)
        refine (ih r (N + 1 + ts.length * B m) _ _ (by omega) (by omega) (by omega) (by have := B_succ m; have : ts.length * B m ≤ 1 * B m := Nat.mul_le_mul_right _ (by omega); omega) (hrd2.keep ((Ext.refl_drew _).below))).mono ?_
        rintro e w3 ⟨x, q, c, rfl, hxd, hf, hb3, hr3⟩
        have X3 : Bel [r] w2 w3 := ((Bel.refl _ _).drew).trans hb3
        refine hK _ _ X3 ?_
        clear hK hK' K K'
        (refine mixL_loud rfl (fun K K' hK hK' => ?_); go_simp)
        refine hK _ _ (X3.alloc _) ?_
        clear hK hK' K K'
        (refine mixL_last rfl (by decide) (fun K K' hK hK' => ?_); rw [if_pos (by rfl)])
        refine wp_bldL (v := v) (ys := #[.int .i64 x.ty.kind, .slice q x.ty.kids.length c]) (sz := 2) (.tmp 26) (.tmp 31) 27 rfl row_Type rfl hB2.drew (by simp; omega) (fun b h1 h2 => hb3.block b h2 (by simp; omega)) hb3.size (New.ty hf) rfl (by simp [Value.oneCell']) rfl (by omega) (by decide) ?_
        intro g cap2 w4 hB4 hbel
        refine hK _ _ ?_
        clear hK hK' K K'
        iterate 1 (first | (refine mixL_skip (by rfl) (fun K hK => ?_); go_simp; refine hK _ ?_; clear hK K) | (refine mixL_free rfl (fun K hK => ?_); go_simp; refine hK _ ?_; clear hK K) | (refine mixL_read rfl rfl (fun K hK => ?_); go_simp; refine hK _ ?_; clear hK K))
        have G04 : w4.heap[w.heap.size]? = some (.cells #[.int .i64 0, .slice none 0 0] 29 (0, 0)) := by rw [hbel.block _ (by omega), X3.block _ (by omega) (by simp; omega)]; exact H02.out
        have G14 : w4.heap[w1.heap.size]? = some (.cells #[.int .i64 4, v] 29 (0, 0)) := by rw [hbel.block _ (by omega), X3.block _ (by omega) (by simp; omega)]; exact H12.out
        have k1 := cell_of_heap (o := 1) G14 rfl
        have kf := free_of_heap (o := 1) G14
        have H04 := Lib.hid G04; have H14 := Lib.hid G14
        clear G04 G14 e1
        (refine mixL_last rfl (by decide) (fun K K' hK hK' => ?_); go_simp)
        refine hK _ _ ?_
        clear hK hK' K K'
        refine mixL_nil ?_
        have hr4 : Rd w4 r (N + 1 + ts.length * B m + B m) 61 := hr3.below hbel (by omega)
        have hbl4 : Bel [r] w w4 := (hbl2.trans X3).andThen hbel (by omega)
        have hsz4 : w1.heap.size < w4.heap.size := lt_of_cell k1
        clear hbel X3 hf hb3 hr3 hB2 hrd2 hbl2
        go_wp2_with fail
        go_roundw
        case rel =>
          refine ⟨ts ++ [x], _, by simp; omega, by simp, ?_, ?_, hbl4.setCell (.inr (by simp; omega)) _, ?_, ?_, heap_setCell_at H14.out _, by simpa using hsz4⟩
          · intro t ht
            rcases List.mem_append.1 ht with ht | ht
            · exact HD.out t ht
            · simp at ht; subst ht; exact hxd
          · rw [css_map_snoc]; simpa using hB4.setCell (p := ⟨w1.heap.size, 1, none⟩) (by simp) _
          · refine (hr4.setCell (by omega) _).mono ?_
            simp [Nat.succ_mul]; omega
          · rw [Below.heap_setCell _ _ _ _ (by simp; omega)]; exact H04.out
        case measure => simp [intOf]; omega
      · have hlen : ts.length = 2 := by omega
        have htl2 : ¬ (ts.length : Int) < 2 := by omega
        obtain ⟨q, cq, rfl, hq⟩ := hB.val
        match ts, hlen with
        | [t0, t1], _ =>
        have f0 := free_of_heap (o := 0) g0
        have f1 := free_of_heap (o := 1) g0
        have HD := Lib.hid hdp
        clear g0 g1 h0 hdp htl htl2 hts
        simp only [List.length_cons, List.length_nil] at *
        go_wp2_with fail
        refine (l1Kids 4 _).mono ?_
        rintro e w2 ⟨rfl, hb2⟩
        rw [show kidsN 4 = 2 from rfl]
        obtain ⟨hc2, hf2⟩ := bcell hb2
        have l0 := lt_of_cell c0
        have hrd2 := hrd.keep hb2
        have hbl2 := hbl.trans (Bel.of_below hb2)
        have hB2 := hB.below hb2
        clear hb2 hrd hbl hB
        go_wp2_with fail
        refine bodyPost_ret (v := .agg #[.int .i64 4, .slice q 2 cq]) (by simp [results, Try.results65, go_sem, *]) rfl ⟨.fn t0 t1, q, cq, rfl, ?_, ?_, (hbl2.setCell (.inr (by simp)) _).setCell (.inr (by simp)) _, ?_⟩
        · have h1 := HD.out t0 (by simp); have h2 := HD.out t1 (by simp); simp only [T.depth]; omega
        · exact ((hB2.setCell (p := ⟨w.heap.size, 0, none⟩) (by simp; omega) (.int .i64 4)).setCell (p := ⟨w.heap.size, 1, none⟩) (by simp; omega) (.slice q 2 cq)).fresh (w0 := w) (by decide) (by omega)
        · exact ((hrd2.setCell (by omega) _).setCell (by omega) _).mono (by rw [B_succ]; omega)
  · skip
    go_wp2_with fail
    go_loopw [7] (fun iv wr => iv = .int .i64 0 ∧ Bel [r] w wr ∧ Rd wr r (N + 1) 61 ∧ wr.heap[w.heap.size]? = some (.cells #[.int .i64 0, .slice none 0 0] 29 (0, 0)) ∧ wr.heap[w1.heap.size]? = some (.cells #[.int .i64 3, .slice none 0 0] 29 (0, 0))) (fun _ _ => 0)
    case atStart => exact ⟨rfl, B1.alloc _, hr1.keep ((Ext.refl _).alloc _).below, by rw [Below.heap_alloc _ _ _ (by omega)]; exact h0, heap_alloc_new _ _⟩
    case round =>
      obtain ⟨rfl, hbl, hrd, g0, g1⟩ := hrel
      have c0 := cell_of_heap (o := 0) g0 rfl
      have c1 := cell_of_heap (o := 1) g0 rfl
      have f0 := free_of_heap (o := 0) g0
      have f1 := free_of_heap (o := 1) g0
      have d0 := cell_of_heap (o := 0) g1 rfl
      have d1 := cell_of_heap (o := 1) g1 rfl
      clear g0 g1 h0
      go_wp2_with fail
      refine (l1Kids 3 _).mono ?_
      rintro e w2 ⟨rfl, hb2⟩
      rw [show kidsN 3 = 0 from rfl]
      obtain ⟨hc2, hf2⟩ := bcell hb2
      have l0 := lt_of_cell c0
      have l1 := lt_of_cell d0
      have hrd2 := hrd.keep hb2
      have hbl2 := hbl.trans (Bel.of_below hb2)
      clear hb2 hrd hbl
      go_wp2_with fail
      refine bodyPost_ret (v := .agg #[.int .i64 3, .slice none 0 0]) (by simp [results, Try.results65, go_sem, *]) rfl ⟨.bool, none, 0, rfl, by simp [T.depth], ⟨[], by simp [C.own, T.ty, Ty.kids, Ty.css], by simp, by simp⟩, (hbl2.setCell (.inr (by simp)) _).setCell (.inr (by simp)) _, ?_⟩
      exact ((hrd2.mono (by have := B_pos (m + 1); omega)).setCell (by omega) _).setCell (by omega) _
  · skip
    go_wp2_with fail
    go_loopw [7] (fun iv wr => ∃ (ts : List T) (v : Value), ts.length ≤ 2 ∧ iv = .int .i64 ts.length ∧ (∀ t ∈ ts, t.depth ≤ m + 1) ∧ Bld tid wr (w1.heap.size + 1) 2 ts.length (Ty.css (ts.map T.ty)) v ∧ Bel [r] w wr ∧ Rd wr r (N + 1 + ts.length * B m) 61 ∧ wr.heap[w.heap.size]? = some (.cells #[.int .i64 0, .slice none 0 0] 29 (0, 0)) ∧ wr.heap[w1.heap.size]? = some (.cells #[.int .i64 5, v] 29 (0, 0)) ∧ w1.heap.size < wr.heap.size) (fun iv _ => 2 - (intOf iv).toNat)
    case atStart => exact ⟨[], .slice none 0 0, by simp, rfl, by simp, Bld.start _ _ _ _, B1.alloc _, by simpa using hr1.keep ((Ext.refl _).alloc _).below, by rw [Below.heap_alloc _ _ _ (by omega)]; exact h0, heap_alloc_new _ _, by simp⟩
    case round =>
      obtain ⟨ts, v, hts, rfl, hdp, hB, hbl, hrd, g0, g1, hsz⟩ := hrel
      have c0 := cell_of_heap (o := 0) g0 rfl
      have c1 := cell_of_heap (o := 1) g0 rfl
      have d0 := cell_of_heap (o := 0) g1 rfl
      have d1 := cell_of_heap (o := 1) g1 rfl
      by_cases htl : ts.length < 2
      · have htl2 : (ts.length : Int) < 2 := by omega
        have G0 := Lib.hid g0; have G1 := Lib.hid g1; have HD := Lib.hid hdp
        clear g0 g1 h0 hdp
        go_wp2_with fail
        refine (l1Kids 5 _).mono ?_
        rintro e w2 ⟨rfl, hb2⟩
        rw [show kidsN 5 = 2 from rfl]
        obtain ⟨hc2, hf2⟩ := bcell hb2
        have e1 : w2.cell? ⟨w1.heap.size, 1, none⟩ = some v := by rw [hc2 _ _ hsz]; exact d1
        have hB2 := hB.below hb2
        have hrd2 := hrd.keep hb2
        have hbl2 := hbl.trans (Bel.of_below hb2)
        have hs2 := hb2.size
        have G02 : w2.heap[w.heap.size]? = some (.cells #[.int .i64 0, .slice none 0 0] 29 (0, 0)) := by rw [hb2.block _ (by omega)]; exact G0.out
        have G12 : w2.heap[w1.heap.size]? = some (.cells #[.int .i64 5, v] 29 (0, 0)) := by rw [hb2.block _ hsz]; exact G1.out
        have H02 := Lib.hid G02; have H12 := Lib.hid G12
        clear hb2 hB hrd hbl c0 c1 d0 d1 hc2 hf2 G0 G1 G02 G12
        have wd : IntKind.i64.wrap (d - 1) = d - 1 := IntWalk.i64_in _ (by omega)
        go_wp2_with fail
        refine region_mixL [r] 3 (by kernel_rfl) (by kernel_rfl) ?_
        repeat (first | (refine mixL_skip (by rfl) (fun K hK => ?_); go_simp; refine hK _ ?_; clear hK K) | (refine mixL_free rfl (fun K hK => ?_); go_simp; refine hK _ ?_; clear hK K) | (refine mixL_read rfl rfl (fun K hK => ?_); go_simp; refine hK _ ?_; clear hK K))
        (refine mixL_loud rfl (fun K K' hK hK' => ?_); go_simp)
        refine (ih r (N + 1 + ts.length * B m) _ _ (by omega) (by omega) (by omega) (by have := B_succ m; have : ts.length * B m ≤ 1 * B m := Nat.mul_le_mul_right _ (by omega); omega) (hrd2.keep ((Ext.refl_drew _).below))).mono ?_
        rintro e w3 ⟨x, q, c, rfl, hxd, hf, hb3, hr3⟩
        have X3 : Bel [r] w2 w3 := ((Bel.refl _ _).drew).trans hb3
        refine hK _ _ X3 ?_
        clear hK hK' K K'
        (refine mixL_loud rfl (fun K K' hK hK' => ?_); go_simp)
        refine hK _ _ (X3.alloc _) ?_
        clear hK hK' K K'
        (refine mixL_last rfl (by decide) (fun K K' hK hK' => ?_); rw [if_pos (by rfl)])
        refine wp_bldL (v := v) (ys := #[.int .i64 x.ty.kind, .slice q x.ty.kids.length c]) (sz := 2) (.tmp 26) (.tmp 31) 27 rfl row_Type rfl hB2.drew (by simp; omega) (fun b h1 h2 => hb3.block b h2 (by simp; omega)) hb3.size (New.ty hf) rfl (by simp [Value.oneCell']) rfl (by omega) (by decide) ?_
        intro g cap2 w4 hB4 hbel
        refine hK _ _ ?_
        clear hK hK' K K'
        iterate 1 (first | (refine mixL_skip (by rfl) (fun K hK => ?_); go_simp; refine hK _ ?_; clear hK K) | (refine mixL_free rfl (fun K hK => ?_); go_simp; refine hK _ ?_; clear hK K) | (refine mixL_read rfl rfl (fun K hK => ?_); go_simp; refine hK _ ?_; clear hK K))
        have G04 : w4.heap[w.heap.size]? = some (.cells #[.int .i64 0, .slice none 0 0] 29 (0, 0)) := by rw [hbel.block _ (by omega), X3.block _ (by omega) (by simp; omega)]; exact H02.out
        have G14 : w4.heap[w1.heap.size]? = some (.cells #[.int .i64 5, v] 29 (0, 0)) := by rw [hbel.block _ (by omega), X3.block _ (by omega) (by simp; omega)]; exact H12.out
        have k1 := cell_of_heap (o := 1) G14 rfl
        have kf := free_of_heap (o := 1) G14
        have H04 := Lib.hid G04; have H14 := Lib.hid G14
        clear G04 G14 e1
        (refine mixL_last rfl (by decide) (fun K K' hK hK' => ?_); go_simp)
        refine hK _ _ ?_
        clear hK hK' K K'
        refine mixL_nil ?_
        have hr4 : Rd w4 r (N + 1 + ts.length * B m + B m) 61 := hr3.below hbel (by omega)
        have hbl4 : Bel [r] w w4 := (hbl2.trans X3).andThen hbel (by omega)
        have hsz4 : w1.heap.size < w4.heap.size := lt_of_cell k1
        clear hbel X3 hf hb3 hr3 hB2 hrd2 hbl2
        go_wp2_with fail
        go_roundw
        case rel =>
          refine ⟨ts ++ [x], _, by simp; omega, by simp, ?_, ?_, hbl4.setCell (.inr (by simp; omega)) _, ?_, ?_, heap_setCell_at H14.out _, by simpa using hsz4⟩
          · intro t ht
            rcases List.mem_append.1 ht with ht | ht
            · exact HD.out t ht
            · simp at ht; subst ht; exact hxd
          · rw [css_map_snoc]; simpa using hB4.setCell (p := ⟨w1.heap.size, 1, none⟩) (by simp) _
          · refine (hr4.setCell (by omega) _).mono ?_
            simp [Nat.succ_mul]; omega
          · rw [Below.heap_setCell _ _ _ _ (by simp; omega)]; exact H04.out
        case measure => simp [intOf]; omega
      · have hlen : ts.length = 2 := by omega
        have htl2 : ¬ (ts.length : Int) < 2 := by omega
        obtain ⟨q, cq, rfl, hq⟩ := hB.val
        match ts, hlen with
        | [t0, t1], _ =>
        have f0 := free_of_heap (o := 0) g0
        have f1 := free_of_heap (o := 1) g0
        have HD := Lib.hid hdp
        clear g0 g1 h0 hdp htl htl2 hts
        simp only [List.length_cons, List.length_nil] at *
        go_wp2_with fail
        refine (l1Kids 5 _).mono ?_
        rintro e w2 ⟨rfl, hb2⟩
        rw [show kidsN 5 = 2 from rfl]
        obtain ⟨hc2, hf2⟩ := bcell hb2
        have l0 := lt_of_cell c0
        have hrd2 := hrd.keep hb2
        have hbl2 := hbl.trans (Bel.of_below hb2)
        have hB2 := hB.below hb2
        clear hb2 hrd hbl hB
        go_wp2_with fail
        refine bodyPost_ret (v := .agg #[.int .i64 5, .slice q 2 cq]) (by simp [results, Try.results65, go_sem, *]) rfl ⟨.pr t0 t1, q, cq, rfl, ?_, ?_, (hbl2.setCell (.inr (by simp)) _).setCell (.inr (by simp)) _, ?_⟩
        · have h1 := HD.out t0 (by simp); have h2 := HD.out t1 (by simp); simp only [T.depth]; omega
        · exact ((hB2.setCell (p := ⟨w.heap.size, 0, none⟩) (by simp; omega) (.int .i64 5)).setCell (p := ⟨w.heap.size, 1, none⟩) (by simp; omega) (.slice q 2 cq)).fresh (w0 := w) (by decide) (by omega)
        · exact ((hrd2.setCell (by omega) _).setCell (by omega) _).mono (by rw [B_succ]; omega)
  · skip
    go_wp2_with fail
    go_loopw [7] (fun iv wr => iv = .int .i64 0 ∧ Bel [r] w wr ∧ Rd wr r (N + 1) 61 ∧ wr.heap[w.heap.size]? = some (.cells #[.int .i64 0, .slice none 0 0] 29 (0, 0)) ∧ wr.heap[w1.heap.size]? = some (.cells #[.int .i64 2, .slice none 0 0] 29 (0, 0))) (fun _ _ => 0)
    case atStart => exact ⟨rfl, B1.alloc _, hr1.keep ((Ext.refl _).alloc _).below, by rw [Below.heap_alloc _ _ _ (by omega)]; exact h0, heap_alloc_new _ _⟩
    case round =>
      obtain ⟨rfl, hbl, hrd, g0, g1⟩ := hrel
      have c0 := cell_of_heap (o := 0) g0 rfl
      have c1 := cell_of_heap (o := 1) g0 rfl
      have f0 := free_of_heap (o := 0) g0
      have f1 := free_of_heap (o := 1) g0
      have d0 := cell_of_heap (o := 0) g1 rfl
      have d1 := cell_of_heap (o := 1) g1 rfl
      clear g0 g1 h0
      go_wp2_with fail
      refine (l1Kids 2 _).mono ?_
      rintro e w2 ⟨rfl, hb2⟩
      rw [show kidsN 2 = 0 from rfl]
      obtain ⟨hc2, hf2⟩ := bcell hb2
      have l0 := lt_of_cell c0
      have l1 := lt_of_cell d0
      have hrd2 := hrd.keep hb2
      have hbl2 := hbl.trans (Bel.of_below hb2)
      clear hb2 hrd hbl
      go_wp2_with fail
      refine bodyPost_ret (v := .agg #[.int .i64 2, .slice none 0 0]) (by simp [results, Try.results65, go_sem, *]) rfl ⟨.int, none, 0, rfl, by simp [T.depth], ⟨[], by simp [C.own, T.ty, Ty.kids, Ty.css], by simp, by simp⟩, (hbl2.setCell (.inr (by simp)) _).setCell (.inr (by simp)) _, ?_⟩
      exact ((hrd2.mono (by have := B_pos (m + 1); omega)).setCell (by omega) _).setCell (by omega) _
  · skip
    go_wp2_with fail
    go_loopw [7] (fun iv wr => ∃ (ts : List T) (v : Value), ts.length ≤ 2 ∧ iv = .int .i64 ts.length ∧ (∀ t ∈ ts, t.depth ≤ m + 1) ∧ Bld tid wr (w1.heap.size + 1) 2 ts.length (Ty.css (ts.map T.ty)) v ∧ Bel [r] w wr ∧ Rd wr r (N + 1 + ts.length * B m) 61 ∧ wr.heap[w.heap.size]? = some (.cells #[.int .i64 0, .slice none 0 0] 29 (0, 0)) ∧ wr.heap[w1.heap.size]? = some (.cells #[.int .i64 4, v] 29 (0, 0)) ∧ w1.heap.size < wr.heap.size) (fun iv _ => 2 - (intOf iv).toNat)
    case atStart => exact ⟨[], .slice none 0 0, by simp, rfl, by simp, Bld.start _ _ _ _, B1.alloc _, by simpa using hr1.keep ((Ext.refl _).alloc _).below, by rw [Below.heap_alloc _ _ _ (by omega)]; exact h0, heap_alloc_new _ _, by simp⟩
    case round =>
      obtain ⟨ts, v, hts, rfl, hdp, hB, hbl, hrd, g0, g1, hsz⟩ := hrel
      have c0 := cell_of_heap (o := 0) g0 rfl
      have c1 := cell_of_heap (o := 1) g0 rfl
      have d0 := cell_of_heap (o := 0) g1 rfl
      have d1 := cell_of_heap (o := 1) g1 rfl
      by_cases htl : ts.length < 2
      · have htl2 : (ts.length : Int) < 2 := by omega
        have G0 := Lib.hid g0; have G1 := Lib.hid g1; have HD := Lib.hid hdp
        clear g0 g1 h0 hdp
        go_wp2_with fail
        refine (l1Kids 4 _).mono ?_
        rintro e w2 ⟨rfl, hb2⟩
        rw [show kidsN 4 = 2 from rfl]
        obtain ⟨hc2, hf2⟩ := bcell hb2
        have e1 : w2.cell? ⟨w1.heap.size, 1, none⟩ = some v := by rw [hc2 _ _ hsz]; exact d1
        have hB2 := hB.below hb2
        have hrd2 := hrd.keep hb2
        have hbl2 := hbl.trans (Bel.of_below hb2)
        have hs2 := hb2.size
        have G02 : w2.heap[w.heap.size]? = some (.cells #[.int .i64 0, .slice none 0 0] 29 (0, 0)) := by rw [hb2.block _ (by omega)]; exact G0.out
        have G12 : w2.heap[w1.heap.size]? = some (.cells #[.int .i64 4, v] 29 (0, 0)) := by rw [hb2.block _ hsz]; exact G1.out
        have H02 := Lib.hid G02; have H12 := Lib.hid G12
        clear hb2 hB hrd hbl c0 c1 d0 d1 hc2 hf2 G0 G1 G02 G12
        have wd : IntKind.i64.wrap (d - 1) = d - 1 := IntWalk.i64_in _ (by omega)
        go_wp2_with fail
        refine region_mixL [r] 3 (by kernel_rfl) (by kernel_rfl) ?_
        repeat (first | (refine mixL_skip (by rfl) (fun K hK => ?_); go_simp; refine hK _ ?_; clear hK K) | (refine mixL_free rfl (fun K hK => ?_); go_simp; refine hK _ ?_; clear hK K) | (refine mixL_read rfl rfl (fun K hK => ?_); go_simp; refine hK _ ?_; clear hK K))
        (refine mixL_loud rfl (fun K K' hK hK' => ?_); go_simp)
        refine (ih r (N + 1 + ts.length * B m) _ _ (by omega) (by omega) (by omega) (by have := B_succ m; have : ts.length * B m ≤ 1 * B m := Nat.mul_le_mul_right _ (by omega); omega) (hrd2.keep ((Ext.refl_drew _).below))).mono ?_
        rintro e w3 ⟨x, q, c, rfl, hxd, hf, hb3, hr3⟩
        have X3 : Bel [r] w2 w3 := ((Bel.refl _ _).drew).trans hb3
        refine hK _ _ X3 ?_
        clear hK hK' K K'
        (refine mixL_loud rfl (fun K K' hK hK' => ?_); go_simp)
        refine hK _ _ (X3.alloc _) ?_
        clear hK hK' K K'
        (refine mixL_last rfl (by decide) (fun K K' hK hK' => ?_); rw [if_pos (by rfl)])
        refine wp_bldL (v := v) (ys := #[.int .i64 x.ty.kind, .slice q x.ty.kids.length c]) (sz := 2) (.tmp 26) (.tmp 31) 27 rfl row_Type rfl hB2.drew (by simp; omega) (fun b h1 h2 => hb3.block b h2 (by simp; omega)) hb3.size (New.ty hf) rfl (by simp [Value.oneCell']) rfl (by omega) (by decide) ?_
        intro g cap2 w4 hB4 hbel
        refine hK _ _ ?_
        clear hK hK' K K'
        iterate 1 (first | (refine mixL_skip (by rfl) (fun K hK => ?_); go_simp; refine hK _ ?_; clear hK K) | (refine mixL_free rfl (fun K hK => ?_); go_simp; refine hK _ ?_; clear hK K) | (refine mixL_read rfl rfl (fun K hK => ?_); go_simp; refine hK _ ?_; clear hK K))
        have G04 : w4.heap[w.heap.size]? = some (.cells #[.int .i64 0, .slice none 0 0] 29 (0, 0)) := by rw [hbel.block _ (by omega), X3.block _ (by omega) (by simp; omega)]; exact H02.out
        have G14 : w4.heap[w1.heap.size]? = some (.cells #[.int .i64 4, v] 29 (0, 0)) := by rw [hbel.block _ (by omega), X3.block _ (by omega) (by simp; omega)]; exact H12.out
        have k1 := cell_of_heap (o := 1) G14 rfl
        have kf := free_of_heap (o := 1) G14
        have H04 := Lib.hid G04; have H14 := Lib.hid G14
        clear G04 G14 e1
        (refine mixL_last rfl (by decide) (fun K K' hK hK' => ?_); go_simp)
        refine hK _ _ ?_
        clear hK hK' K K'
        refine mixL_nil ?_
        have hr4 : Rd w4 r (N + 1 + ts.length * B m + B m) 61 := hr3.below hbel (by omega)
        have hbl4 : Bel [r] w w4 := (hbl2.trans X3).andThen hbel (by omega)
        have hsz4 : w1.heap.size < w4.heap.size := lt_of_cell k1
        clear hbel X3 hf hb3 hr3 hB2 hrd2 hbl2
        go_wp2_with fail
        go_roundw
        case rel =>
          refine ⟨ts ++ [x], _, by simp; omega, by simp, ?_, ?_, hbl4.setCell (.inr (by simp; omega)) _, ?_, ?_, heap_setCell_at H14.out _, by simpa using hsz4⟩
          · intro t ht
            rcases List.mem_append.1 ht with ht | ht
            · exact HD.out t ht
            · simp at ht; subst ht; exact hxd
          · rw [css_map_snoc]; simpa using hB4.setCell (p := ⟨w1.heap.size, 1, none⟩) (by simp) _
          · refine (hr4.setCell (by omega) _).mono ?_
            simp [Nat.succ_mul]; omega
          · rw [Below.heap_setCell _ _ _ _ (by simp; omega)]; exact H04.out
        case measure => simp [intOf]; omega
      · have hlen : ts.length = 2 := by omega
        have htl2 : ¬ (ts.length : Int) < 2 := by omega
        obtain ⟨q, cq, rfl, hq⟩ := hB.val
        match ts, hlen with
        | [t0, t1], _ =>
        have f0 := free_of_heap (o := 0) g0
        have f1 := free_of_heap (o := 1) g0
        have HD := Lib.hid hdp
        clear g0 g1 h0 hdp htl htl2 hts
        simp only [List.length_cons, List.length_nil] at *
        go_wp2_with fail
        refine (l1Kids 4 _).mono ?_
        rintro e w2 ⟨rfl, hb2⟩
        rw [show kidsN 4 = 2 from rfl]
        obtain ⟨hc2, hf2⟩ := bcell hb2
        have l0 := lt_of_cell c0
        have hrd2 := hrd.keep hb2
        have hbl2 := hbl.trans (Bel.of_below hb2)
        have hB2 := hB.below hb2
        clear hb2 hrd hbl hB
        go_wp2_with fail
        refine bodyPost_ret (v := .agg #[.int .i64 4, .slice q 2 cq]) (by simp [results, Try.results65, go_sem, *]) rfl ⟨.fn t0 t1, q, cq, rfl, ?_, ?_, (hbl2.setCell (.inr (by simp)) _).setCell (.inr (by simp)) _, ?_⟩
        · have h1 := HD.out t0 (by simp); have h2 := HD.out t1 (by simp); simp only [T.depth]; omega
        · exact ((hB2.setCell (p := ⟨w.heap.size, 0, none⟩) (by simp; omega) (.int .i64 4)).setCell (p := ⟨w.heap.size, 1, none⟩) (by simp; omega) (.slice q 2 cq)).fresh (w0 := w) (by decide) (by omega)
        · exact ((hrd2.setCell (by omega) _).setCell (by omega) _).mono (by rw [B_succ]; omega)

theorem draw (m : Nat) : DrawN m := by
  induction m with
  | zero => exact fun r N d w h1 h2 h3 h4 h5 => draw_small 0 r N d w (by omega) h2 h3 h4 h5
  | succ m ih =>
    intro r N d w h1 h2 h3 h4 h5
    by_cases hd : d < 2
    · exact draw_small (m + 1) r N d w hd h2 h3 h4 h5
    · exact draw_step m ih r N d w ⟨hd, by omega⟩ h2 h3 h4 h5
end Go.Proofs.Ytkkijdlgmlffoaa
