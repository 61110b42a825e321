/- Texts of the proof, one behind another. -/
import Derived.Test.YtnaebafafhamjaaRows
import Derived.ProofKit
import Derived.OpenShut
import Derived.Test.YtnaebafafhamjaaK4
import Derived.Test.YtnaebafafhamjaaK5
import Derived.Test.YtnaebafafhamjaaK13
set_option linter.unusedSimpArgs false
set_option linter.unusedVariables false
/- A law's arguments that are types and terms, read as shadows. -/
namespace Go.Proofs.Sh
open Go.RowKit Go.Proofs.Grad
theorem simNil (w : World) : Sim [] [] [] w :=
  ⟨rfl, by simp, by simp, fun i b g h => by simp at h, fun i j b b' g _ h => by simp at h, fun i b g h => by simp at h⟩
theorem lawCalls {P : Program} {f : FuncId} {args : List AV} {vs : Array Value} {w : World} (h : AFn P f args (.one (.sc (.bool true)))) (hr : AV.repl [] [] w args vs.toList) :
    Calls P f vs w (fun e w' => e = .returned (.bool true) ∧ Below w.heap.size w w') := by
  refine (h.out.2 [] [] w vs (simNil w) hr).mono ?_
  rintro e w' ⟨r, H', μ', v, rfl, ⟨rfl, rfl⟩, hS, hT, hv⟩
  simp only [AV.rep, C.rep] at hv
  refine ⟨by rw [hv.1], hT.keep.os, hT.keep.tape, hT.keep.output, hT.keep.size, fun b hb => hT.keep.block b (by simp [alive]) hb⟩
variable {w : World}
theorem reps_of {b : Nat} : ∀ {cs : List C} {ds : List Value} {off : Nat}, C.repl [] [] w cs ds → (∀ i, i < ds.length → w.cell? ⟨b, off + i, none⟩ = ds[i]?) → C.reps [] [] w cs b off
  | [], _, _, _, _ => trivial
  | c :: cs, ds, off, h, hc => by
    simp only [C.repl] at h
    obtain ⟨u, us, rfl, h1, h2⟩ := h
    refine ⟨⟨u, hc 0 (by simp), h1⟩, reps_of h2 fun i hi => ?_⟩
    have := hc (i + 1) (by simpa using hi)
    rw [show off + 1 + i = off + (i + 1) by omega]
    simpa using this
theorem repss_of {T : Type} (f : T → List C) {s b : Nat} (hf : ∀ t, (f t).length = s) : ∀ (l : List T) (off : Nat), (∀ i (hi : i < l.length), C.reps [] [] w (f l[i]) b (off + i * s)) → C.repss [] [] w s (l.map f) b off
  | [], _, _ => trivial
  | t :: l, off, h => by
    have h0 := h 0 (by simp)
    rw [Nat.zero_mul, Nat.add_zero] at h0
    refine ⟨hf t, h0, repss_of f hf l (off + s) fun i hi => ?_⟩
    have := h (i + 1) (by simpa using hi)
    rw [show off + s + i * s = off + (i + 1) * s by rw [Nat.add_mul]; omega]
    simpa using this
theorem add_plain {b o k : Nat} : (⟨b, o, none⟩ : Addr).add k = ⟨b, o + k, none⟩ := by
  unfold Addr.add; split <;> simp_all
theorem spot_plain {a : Addr} {v : Value} (h : w.cell? a = some v) : a.spot = none := by
  obtain ⟨b, o, s⟩ := a
  cases s with
  | none => rfl
  | some s =>
    simp only [World.cell?] at h
    split at h <;> simp at h
theorem sl_rep {T : Type} (f : T → List C) {s base : Nat} (hs : 0 < s) (hf : ∀ t, (f t).length = s) {a : Addr} {cap : Nat} (l : List T) (h : ∀ i (hi : i < l.length), ∃ ds, w.cells? base (a.add (i * s)) s = some ds ∧ C.repl [] [] w (f l[i]) ds) (hlc : l.length ≤ cap) (hcm : cap ≤ maxLen) :
    C.rep [] [] w (.sl (l.map f)) (.slice (some a) l.length cap) := by
  simp only [C.rep]
  refine ⟨some a, cap, by rw [List.length_map], by simpa using hlc, hcm, ?_⟩
  cases hl : l with
  | nil => exact .inl rfl
  | cons t0 l0 =>
    have h0 : 0 < l.length := by rw [hl]; simp
    obtain ⟨ds, g, _⟩ := h 0 h0
    obtain ⟨_, g2, g3⟩ := World.cells?_some g
    have g4 := g3 0 hs
    have : ∃ v, ds[0]? = some v := ⟨ds[0], List.getElem?_eq_getElem (by omega)⟩
    obtain ⟨v, hv⟩ := this
    rw [hv] at g4
    have hsp : a.spot = none := by
      have := spot_plain g4
      simp [Addr.add] at this
      exact this
    obtain ⟨b, o, sp⟩ := a
    simp at hsp
    subst hsp
    rw [add_plain, add_plain] at g4
    refine .inr ⟨b, o, s, rfl, lt_of_cell g4, by simp, ?_⟩
    rw [← hl]
    refine repss_of f hf l o fun i hi => ?_
    obtain ⟨ds, g, gr⟩ := h i hi
    obtain ⟨_, g2, g3⟩ := World.cells?_some g
    refine reps_of gr fun j hj => ?_
    have := g3 j (by omega)
    simpa [add_plain] using this
theorem listAll {α : Type} {n : Nat} {P : Nat → α → Prop} (h : ∀ i, i < n → ∃ x, P i x) : ∃ l : List α, l.length = n ∧ ∀ i (hi : i < l.length), P i l[i] := by
  induction n with
  | zero => exact ⟨[], rfl, by simp⟩
  | succ n ih =>
    obtain ⟨l, hl, hp⟩ := ih fun i hi => h i (by omega)
    obtain ⟨x, hx⟩ := h n (by omega)
    refine ⟨l ++ [x], by simp [hl], fun i hi => ?_⟩
    by_cases hil : i < l.length
    · rw [List.getElem_append_left hil]; exact hp i hil
    · have : i = l.length := by simp at hi; omega
      subst this
      rw [List.getElem_append_right (by omega)]
      simp only [Nat.sub_self, List.getElem_cons_zero]
      rw [hl]; exact hx
theorem tyR_map (l : List Ty) : tyR l = l.map tyC := by
  induction l with
  | nil => rfl
  | cons t l ih => simp [tyR, ih]
theorem teR_map (l : List Tm) : teR l = l.map teC := by
  induction l with
  | nil => rfl
  | cons t l ih => simp [teR, ih]
theorem rep_nil {s : Nat} : C.rep [] [] w (.sl []) (.slice none 0 s) ↔ s ≤ maxLen := by
  simp only [C.rep, List.length_nil]
  exact ⟨fun ⟨_, c, e, _, h, _⟩ => by cases e; exact h, fun h => ⟨none, s, rfl, Nat.zero_le _, h, .inl trivial⟩⟩
end Go.Proofs.Sh
namespace Go.Proofs.Ytnaebafafhamjaa
open Go.RowKit Go.Proofs.Sh Go.Proofs.Grad
open Go.ChangeShapes Go.WideShapes Go.ChangeAt
theorem ownKT : ownKnob Try.prog.godebug = none := by kernel_rfl
theorem laidKT : laidOutB Try.prog = true := by kernel_rfl
variable {H : Type} {enc : TypeId × Value → H} {w : World} {base : Nat} {spare : Nat → Bool} {held : Bool}
set_option maxRecDepth 100000 in
theorem opn_Ty : ∀ (n fuel : Nat) (cs : List Value) (x : DataW H × List MemPlace), fuel ≤ n → DataW.trod enc Try.prog w base spare held fuel 37 cs = some x → ∃ t : Ty, C.repl [] [] w (tyC t) cs ∧ t.fits := by
  intro n
  induction n with
  | zero =>
    intro fuel cs x hf h
    obtain rfl : fuel = 0 := by omega
    simp [DataW.trod] at h
  | succ n ih =>
    intro fuel cs x hf h
    obtain ⟨xs, m, hm, hx, hl, hlen, hfs⟩ := DataW.trod_struct Try.underlying37 h
    have hc : Try.prog.cellsOf 37 = 2 := by kernel_rfl
    have hc1 : Try.prog.cellsOf 3 = 1 := by kernel_rfl
    have hc2 : Try.prog.cellsOf 35 = 1 := by kernel_rfl
    rw [hc] at hl
    match cs, hl with
    | [c0, c1], _ =>
      have f0 : DataW.trod enc Try.prog w base spare held m 3 (([c0, c1].drop 0).take (Try.prog.cellsOf 3)) = xs[0]? := hfs 0 _ rfl
      have f1 : DataW.trod enc Try.prog w base spare held m 35 (([c0, c1].drop 1).take (Try.prog.cellsOf 35)) = xs[1]? := hfs 1 _ rfl
      rw [hc1] at f0
      rw [hc2] at f1
      simp at hlen
      rw [List.getElem?_eq_getElem (by omega)] at f0 f1
      simp at f0 f1
      obtain ⟨k, e0, _, _⟩ := DataW.trod_int Try.underlying3 f0
      simp at e0
      subst e0
      rcases DataW.trod_slice Try.underlying35 f1 with ⟨e1, _⟩ | ⟨a, len, cap, elems, rest, m', hm', e1, _, hb, hlc, hcm, hel, hall, _, _⟩
      · simp at e1
        subst e1
        refine ⟨.mk k [], ?_, ⟨by simp, trivial⟩⟩
        simp only [tyC, tyR, C.repl]
        exact ⟨_, _, rfl, ⟨rfl, rfl⟩, _, _, rfl, rep_nil.2 (by simp [maxLen]), rfl⟩
      · simp at e1
        subst e1
        have hkid : ∀ i, i < len → ∃ t : Ty, (∃ ds, w.cells? base (a.add (i * 2)) 2 = some ds ∧ C.repl [] [] w (tyC t) ds) ∧ t.fits := by
          intro i hi
          have h1 := hall i hi
          rw [hc, List.getElem?_eq_getElem (by omega)] at h1
          cases h2 : w.cells? base (a.add (i * 2)) 2 with
          | none => rw [h2] at h1; simp at h1
          | some ds =>
            rw [h2] at h1
            simp only [Option.bind_some] at h1
            obtain ⟨t, hr, hf⟩ := ih m' ds _ (by omega) h1
            exact ⟨t, ⟨ds, rfl, hr⟩, hf⟩
        obtain ⟨l, hl, hp⟩ := listAll hkid
        subst hl
        refine ⟨.mk k l, ?_, ⟨by simp only [maxLen] at hcm; omega, Ty.fitss_of fun i hi => (hp i hi).2⟩⟩
        simp only [tyC, C.repl]
        refine ⟨_, _, rfl, ⟨rfl, rfl⟩, _, _, rfl, ?_, rfl⟩
        rw [tyR_map]
        exact sl_rep tyC (by omega) tyC_length l (fun i hi => (hp i hi).1) hlc hcm
set_option maxRecDepth 100000 in
theorem open_TyS {v : Value} {d : DataW H} {p : List MemPlace} {r : Reach} {b0 : Nat} (hv : Value.okWide Try.prog w r b0 37 v) (h : DataW.Trod enc Try.prog w base spare held 37 v d p) : ∃ t : Ty, AV.rep [] [] w (.agg (tyC t)) v ∧ t.fits := by
  obtain ⟨cs, rfl, _⟩ := okWide_struct Try.underlying37 hv
  obtain ⟨fuel, hu⟩ := h
  obtain ⟨t, hr, hf⟩ := opn_Ty fuel fuel _ _ (Nat.le_refl _) hu
  refine ⟨t, ?_, hf⟩
  simp only [AV.rep]
  exact ⟨cs, rfl, hr⟩
set_option maxRecDepth 100000 in
theorem open_IntS {v : Value} {d : DataW H} {p : List MemPlace} {r : Reach} {b0 : Nat} (hv : Value.okWide Try.prog w r b0 3 v) (h : DataW.Trod enc Try.prog w base spare held 3 v d p) : ∃ k : Int, v = .int .i64 k ∧ (-9223372036854775808 ≤ k ∧ k ≤ 9223372036854775807) := by
  obtain ⟨k, e, _, _, k2⟩ := Go.ChangeShapes.open_int Try.underlying3 hv h
  refine ⟨k, e, ?_⟩
  simp [Lit.wf, IntKind.min, IntKind.max, IntKind.signed, IntKind.bits] at k2
  omega
theorem repl_one {c : C} {v : Value} (h : C.rep [] [] w c v) : C.repl [] [] w [c] [v] := by simp only [C.repl]; exact ⟨v, [], rfl, h, rfl⟩
set_option maxRecDepth 100000 in
theorem opn_Tm : ∀ (n fuel : Nat) (cs : List Value) (x : DataW H × List MemPlace), fuel ≤ n → DataW.trod enc Try.prog w base spare held fuel 40 cs = some x → ∃ t : Tm, C.repl [] [] w (teC t) cs ∧ t.fits := by
  intro n
  induction n with
  | zero =>
    intro fuel cs x hf h
    obtain rfl : fuel = 0 := by omega
    simp [DataW.trod] at h
  | succ n ih =>
    intro fuel cs x hf h
    obtain ⟨xs, m, hm, hx, hl, hlen, hfs⟩ := DataW.trod_struct Try.underlying40 h
    have hc : Try.prog.cellsOf 40 = 9 := by kernel_rfl
    have hc1 : Try.prog.cellsOf 3 = 1 := by kernel_rfl
    have hc2 : Try.prog.cellsOf 37 = 2 := by kernel_rfl
    have hc3 : Try.prog.cellsOf 9 = 1 := by kernel_rfl
    have hc4 : Try.prog.cellsOf 38 = 1 := by kernel_rfl
    rw [hc] at hl
    match cs, hl with
    | [c0, c1, c2, c3, c4, c5, c6, c7, c8], _ =>
      have f0 : DataW.trod enc Try.prog w base spare held m 3 (([c0, c1, c2, c3, c4, c5, c6, c7, c8].drop 0).take (Try.prog.cellsOf 3)) = xs[0]? := hfs 0 _ rfl
      have f1 : DataW.trod enc Try.prog w base spare held m 9 (([c0, c1, c2, c3, c4, c5, c6, c7, c8].drop 1).take (Try.prog.cellsOf 9)) = xs[1]? := hfs 1 _ rfl
      have f2 : DataW.trod enc Try.prog w base spare held m 3 (([c0, c1, c2, c3, c4, c5, c6, c7, c8].drop 2).take (Try.prog.cellsOf 3)) = xs[2]? := hfs 2 _ rfl
      have f3 : DataW.trod enc Try.prog w base spare held m 37 (([c0, c1, c2, c3, c4, c5, c6, c7, c8].drop 3).take (Try.prog.cellsOf 37)) = xs[3]? := hfs 3 _ rfl
      have f4 : DataW.trod enc Try.prog w base spare held m 37 (([c0, c1, c2, c3, c4, c5, c6, c7, c8].drop 5).take (Try.prog.cellsOf 37)) = xs[4]? := hfs 4 _ rfl
      have f5 : DataW.trod enc Try.prog w base spare held m 3 (([c0, c1, c2, c3, c4, c5, c6, c7, c8].drop 7).take (Try.prog.cellsOf 3)) = xs[5]? := hfs 5 _ rfl
      have f6 : DataW.trod enc Try.prog w base spare held m 38 (([c0, c1, c2, c3, c4, c5, c6, c7, c8].drop 8).take (Try.prog.cellsOf 38)) = xs[6]? := hfs 6 _ rfl
      rw [hc1] at f0 f2 f5
      rw [hc2] at f3 f4
      rw [hc3] at f1
      rw [hc4] at f6
      simp at hlen
      rw [List.getElem?_eq_getElem (by omega)] at f0 f1 f2 f3 f4 f5 f6
      simp at f0 f1 f2 f3 f4 f5 f6
      obtain ⟨k0, e0, _, _⟩ := DataW.trod_int Try.underlying3 f0
      obtain ⟨k2, e2, _, _⟩ := DataW.trod_int Try.underlying3 f2
      obtain ⟨k5, e5, _, _⟩ := DataW.trod_int Try.underlying3 f5
      obtain ⟨s, e1, _, hns⟩ := DataW.trod_string Try.underlying9 f1
      obtain ⟨t3, r3, ft3⟩ := opn_Ty m m _ _ (Nat.le_refl _) f3
      obtain ⟨t4, r4, ft4⟩ := opn_Ty m m _ _ (Nat.le_refl _) f4
      simp at e0 e1 e2 e5
      subst e0 e1 e2 e5
      rw [tyC_eq] at r3 r4
      simp only [C.repl] at r3 r4
      obtain ⟨u3, us3, g3, a3, u4, us4, g4, a4, g5⟩ := r3
      obtain ⟨u5, us5, g6, a5, u6, us6, g7, a6, g8⟩ := r4
      subst g5; subst g4; simp at g3; obtain ⟨rfl, rfl⟩ := g3
      subst g8; subst g7; simp at g6; obtain ⟨rfl, rfl⟩ := g6
      rcases DataW.trod_slice Try.underlying38 f6 with ⟨e1, _⟩ | ⟨a, len, cap, elems, rest, m', hm', e1, _, hb, hlc, hcm, hel, hall, _, _⟩
      · simp at e1
        subst e1
        refine ⟨.mk k0 s k2 t3 t4 k5 [], ?_, ⟨by simp only [maxLen] at hns; omega, ft3, ft4, by simp, trivial⟩⟩
        simp only [teC, teR, C.repl]
        exact ⟨_, _, rfl, ⟨rfl, rfl⟩, _, _, rfl, ⟨rfl, rfl⟩, _, _, rfl, ⟨rfl, rfl⟩, _, _, rfl, a3, _, _, rfl, a4, _, _, rfl, a5, _, _, rfl, a6, _, _, rfl, ⟨rfl, rfl⟩, _, _, rfl, rep_nil.2 (by simp [maxLen]), rfl⟩
      · simp at e1
        subst e1
        have hkid : ∀ i, i < len → ∃ t : Tm, (∃ ds, w.cells? base (a.add (i * 9)) 9 = some ds ∧ C.repl [] [] w (teC t) ds) ∧ t.fits := by
          intro i hi
          have h1 := hall i hi
          rw [hc, List.getElem?_eq_getElem (by omega)] at h1
          cases h2 : w.cells? base (a.add (i * 9)) 9 with
          | none => rw [h2] at h1; simp at h1
          | some ds =>
            rw [h2] at h1
            simp only [Option.bind_some] at h1
            obtain ⟨t, hr, hf⟩ := ih m' ds _ (by omega) h1
            exact ⟨t, ⟨ds, rfl, hr⟩, hf⟩
        obtain ⟨l, hl, hp⟩ := listAll hkid
        subst hl
        refine ⟨.mk k0 s k2 t3 t4 k5 l, ?_, ⟨by simp only [maxLen] at hns; omega, ft3, ft4, by simp only [maxLen] at hcm; omega, Tm.fitss_of fun i hi => (hp i hi).2⟩⟩
        simp only [teC, C.repl]
        refine ⟨_, _, rfl, ⟨rfl, rfl⟩, _, _, rfl, ⟨rfl, rfl⟩, _, _, rfl, ⟨rfl, rfl⟩, _, _, rfl, a3, _, _, rfl, a4, _, _, rfl, a5, _, _, rfl, a6, _, _, rfl, ⟨rfl, rfl⟩, _, _, rfl, ?_, rfl⟩
        rw [teR_map]
        exact sl_rep teC (by omega) teC_length l (fun i hi => (hp i hi).1) hlc hcm
set_option maxRecDepth 100000 in
theorem open_TmS {v : Value} {d : DataW H} {p : List MemPlace} {r : Reach} {b0 : Nat} (hv : Value.okWide Try.prog w r b0 40 v) (h : DataW.Trod enc Try.prog w base spare held 40 v d p) : ∃ t : Tm, AV.rep [] [] w (.agg (teC t)) v ∧ t.fits := by
  obtain ⟨cs, rfl, _⟩ := okWide_struct Try.underlying40 hv
  obtain ⟨fuel, hu⟩ := h
  obtain ⟨t, hr, hf⟩ := opn_Tm fuel fuel _ _ (Nat.le_refl _) hu
  refine ⟨t, ?_, hf⟩
  simp only [AV.rep]
  exact ⟨cs, rfl, hr⟩
end Go.Proofs.Ytnaebafafhamjaa
