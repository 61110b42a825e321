/- A law's arguments, read as trees. -/
import Derived.Test.YtkkijdlgmlffoaaRows
import Derived.Test.YtkkijdlgmlffoaaTyp
import Derived.Test.YtkkijdlgmlffoaaFill
import Derived.ProofKit
import Derived.OpenShut
namespace Go.Proofs.Ytkkijdlgmlffoaa
open Go.RowKit Go.Proofs.Grad
open Go.ChangeShapes Go.WideShapes Go.ChangeAt

variable {H : Type} {enc : TypeId × Value → H} {w : World} {base : Nat} {spare : Nat → Bool} {held : Bool}

theorem list_of_all {α : Type} {n : Nat} {P : Nat → α → Prop} (h : ∀ i, i < n → ∃ x, P i x) : ∃ l : List α, l.length = n ∧ ∀ i (hi : i < l.length), P i l[i] := by
  induction n with
  | zero => exact ⟨[], rfl, by simp⟩
  | succ n ih =>
    obtain ⟨l, hl, hp⟩ := ih fun i hi => h i (by omega)
    obtain ⟨x, hx⟩ := h n (by omega)
    refine ⟨l ++ [x], by simp [hl], fun i hi => ?_⟩
    by_cases hil : i < l.length
    · rw [List.getElem_append_left hil]; exact hp i hil
    · have : i = l.length := by simp at hi; omega
      subst this
      rw [List.getElem_append_right (by omega)]
      simp only [Nat.sub_self, List.getElem_cons_zero]
      rw [hl]; exact hx

theorem add_none {b o k : Nat} : (⟨b, o, none⟩ : Addr).add k = ⟨b, o + k, none⟩ := by
  unfold Addr.add; split <;> simp_all

theorem spot_of_cell {a : Addr} {v : Value} (h : w.cell? a = some v) : a.spot = none := by
  cases a with
  | mk b o s =>
    cases s with
    | none => rfl
    | some s =>
      simp only [World.cell?] at h
      split at h <;> simp at h

theorem cells_two {a : Addr} {cs : List Value} (h : w.cells? base a 2 = some cs) : ∃ u v, cs = [u, v] ∧ w.cell? (a.add 0) = some u ∧ w.cell? (a.add 1) = some v := by
  unfold World.cells? at h
  split at h
  · simp only [List.range_succ, List.range_zero, List.nil_append, List.cons_append, List.mapM_cons, List.mapM_nil, Option.pure_def, Option.bind_eq_bind] at h
    cases h0 : w.cell? (a.add 0) with
    | none => simp [h0] at h
    | some u =>
      cases h1 : w.cell? (a.add 1) with
      | none => simp [h0, h1] at h
      | some v => simp [h0, h1] at h; exact ⟨u, v, h.symm, rfl, rfl⟩
  · cases h

theorem read_Ty : ∀ (n fuel : Nat) (cs : List Value) (x : DataW H × List MemPlace), fuel ≤ n → DataW.trod enc Try.prog w base spare held fuel 24 cs = some x →
    ∃ (t : Ty) (q : Option Addr) (c : Nat), cs = [.int .i64 t.kind, .slice q t.kids.length c] ∧ TysRep [] w t.kids q c := by
  intro n
  induction n with
  | zero =>
    intro fuel cs x hf h
    obtain rfl : fuel = 0 := by omega
    simp [DataW.trod] at h
  | succ n ih =>
    intro fuel cs x hf h
    obtain ⟨xs, m, hm, hx, hl, hlen, hfs⟩ := DataW.trod_struct Try.underlying24 h
    have hc : Try.prog.cellsOf 24 = 2 := by kernel_rfl
    have hc1 : Try.prog.cellsOf 3 = 1 := by kernel_rfl
    have hc2 : Try.prog.cellsOf 22 = 1 := by kernel_rfl
    rw [hc] at hl
    match cs, hl with
    | [c0, c1], _ =>
      have f0 : DataW.trod enc Try.prog w base spare held m 3 (([c0, c1].drop 0).take (Try.prog.cellsOf 3)) = xs[0]? := hfs 0 _ rfl
      have f1 : DataW.trod enc Try.prog w base spare held m 22 (([c0, c1].drop 1).take (Try.prog.cellsOf 22)) = xs[1]? := hfs 1 _ rfl
      rw [hc1] at f0
      rw [hc2] at f1
      simp at hlen
      obtain ⟨y0, hy0⟩ : ∃ y, xs[0]? = some y := ⟨xs[0], List.getElem?_eq_getElem (by omega)⟩
      obtain ⟨y1, hy1⟩ : ∃ y, xs[1]? = some y := ⟨xs[1], List.getElem?_eq_getElem (by omega)⟩
      rw [hy0] at f0
      rw [hy1] at f1
      simp at f0 f1
      obtain ⟨k, e0, _, _⟩ := DataW.trod_int Try.underlying3 f0
      simp at e0
      subst e0
      rcases DataW.trod_slice Try.underlying22 f1 with ⟨e1, _⟩ | ⟨a, len, cap, elems, rest, m', hm', e1, _, hb, hlc, hcm, hel, hall, _, _⟩
      · simp at e1
        subst e1
        exact ⟨.mk k [], none, 0, rfl, TysRep.nil _ _⟩
      · simp at e1
        subst e1
        have hkid : ∀ i, i < len → ∃ t : Ty, ∃ q c, w.cell? ((a.add (i * 2)).add 0) = some (.int .i64 t.kind) ∧ w.cell? ((a.add (i * 2)).add 1) = some (.slice q t.kids.length c) ∧ TysRep [] w t.kids q c := by
          intro i hi
          have h1 := hall i hi
          rw [hc, List.getElem?_eq_getElem (by omega)] at h1
          cases h2 : w.cells? base (a.add (i * 2)) 2 with
          | none => rw [h2] at h1; simp at h1
          | some ds =>
            rw [h2] at h1
            simp only [Option.bind_some] at h1
            obtain ⟨t, q, c, rfl, hr⟩ := ih m' ds _ (by omega) h1
            obtain ⟨u, v, e, g0, g1⟩ := cells_two h2
            simp at e
            obtain ⟨rfl, rfl⟩ := e
            exact ⟨t, q, c, g0, g1, hr⟩
        obtain ⟨l, hl, hp⟩ := list_of_all hkid
        subst hl
        refine ⟨.mk k l, some a, cap, rfl, ?_⟩
        show TysRep [] w l (some a) cap
        unfold TysRep C.rep
        refine ⟨_, _, rfl, hlc, hcm, ?_⟩
        cases hl0 : l with
        | nil => exact .inl (by simp [Ty.css])
        | cons t0 l0 =>
          have h0 : 0 < l.length := by rw [hl0]; simp
          obtain ⟨q, c, g0, _⟩ := hp 0 h0
          have hs : a.spot = none := by
            have := spot_of_cell g0
            simp [Addr.add] at this
            exact this
          obtain ⟨b, o, s⟩ := a
          simp at hs
          subst hs
          refine .inr ⟨b, o, rfl, by simp, ?_⟩
          rw [← hl0, Ty.css_eq]
          refine C.reps_flat_mk Ty.cs_length fun i hi => ?_
          obtain ⟨q, c, g0, g1, hr⟩ := hp i hi
          simp only [add_none] at g0 g1
          rw [Ty.cs_eq]
          simp only [C.reps, and_true]
          exact ⟨⟨_, by simpa using g0, by simp [C.rep]⟩, ⟨_, g1, hr⟩⟩

theorem open_Ty {v : Value} {d : DataW H} {p : List MemPlace} {r : Reach} {b0 : Nat} (hv : Value.okWide Try.prog w r b0 24 v) (h : DataW.Trod enc Try.prog w base spare held 24 v d p) :
    ∃ (t : Ty) (q : Option Addr) (c : Nat), v = .agg #[.int .i64 t.kind, .slice q t.kids.length c] ∧ TysRep [] w t.kids q c := by
  obtain ⟨cs, rfl, _⟩ := okWide_struct Try.underlying24 hv
  obtain ⟨fuel, hf⟩ := h
  obtain ⟨t, q, c, e, hr⟩ := read_Ty fuel fuel _ _ (Nat.le_refl _) hf
  refine ⟨t, q, c, ?_, hr⟩
  have : cs.toList = [.int .i64 t.kind, .slice q t.kids.length c] := e
  rw [show cs = cs.toList.toArray from by simp, this]

theorem ownK : ownKnob Try.prog.godebug = none := by kernel_rfl
theorem laidK : laidOutB Try.prog = true := by kernel_rfl
end Go.Proofs.Ytkkijdlgmlffoaa
