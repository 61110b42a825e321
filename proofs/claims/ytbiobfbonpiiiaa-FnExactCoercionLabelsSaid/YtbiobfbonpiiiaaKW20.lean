/- Texts of the proof, one behind another. -/
import Derived.Test.YtbiobfbonpiiiaaRows
import Derived.ProofKit
import Derived.OpenShut
import Derived.Test.YtbiobfbonpiiiaaKW8
import Derived.Test.YtbiobfbonpiiiaaKW9
import Derived.Test.YtbiobfbonpiiiaaKW15
import Derived.Test.YtbiobfbonpiiiaaKW18
import Derived.Test.YtbiobfbonpiiiaaKW19
set_option linter.unusedSimpArgs false
set_option linter.unusedVariables false
/- The labels of a coercion as the caller's own numbers. On shadows. -/
namespace Go.Proofs.Ytbiobfbonpiiiaa
open Go.RowKit Go.Proofs.Sh Go.Proofs.Grad
set_option maxRecDepth 100000
set_option maxHeartbeats 8000000
theorem labsV_len (c : Co) : c.labsV.length ≤ c.size := by
  unfold Co.labsV
  cases e : c.k? with
  | none => simp
  | some k =>
    obtain ⟨rfl, hk⟩ := Co.k?_some e
    have h1 := (setL_spec k.labels).2.2
    have h2 := k.labels_len
    rw [K.co_size]
    simp only []
    omega
theorem iCoLabsI (c : Co) (h : c.size < 90000000) : ACl Try.prog 33 [.agg (coC c)] [] (IntsR c.labsV) := by
  have hv := coValid c
  unfold Co.labsV
  cases e : c.k? with
  | none =>
    rw [Co.k?_none e] at hv
    refine acl_in Try.func33 rfl isfn_33 (Nat.le_of_ble_eq_true rfl) (fun R hR => ?_); rw [Try.results33] at hR; refine wg_run ?_; (simp only [Try.f33, go_sem])
    repeat' (first | (first | (((first | apply sp1 | apply sp2 | apply sp3 | apply sp4 | apply sp5 | apply sp6 | apply sp7) <;> intro hb) <;> (simp only [go_sem, hb])) | ((first | apply wm_done | apply wt_done | apply wg_run | refine fk ?_ ?_) <;> (simp only [go_sem]))) | (first | refine cdq ?_ (hc := hv) | refine cmq ?_ (hc := hv) | refine ctq ?_ (hc := hv)); (simp only [go_sem]))
    exact hR _ (rat [] (hK := (.inl ⟨rfl, rfl, rfl⟩)))
  | some k =>
    obtain ⟨rfl, hk⟩ := Co.k?_some e
    rw [K.ok_valid, hk] at hv
    simp only [K.ok, Bool.and_eq_true] at hk
    rw [K.co_size] at h
    have hl := iLabsO k hk.1 h
    have hll := k.labels_len
    simp only []
    cases el : k.labels with
    | nil =>
      rw [el] at hl
      have e0 : setL [] = [] := (setL_nil_iff []).2 rfl
      have s1 := sortNil
      have s2 := compNil
      rw [e0]
      refine acl_in Try.func33 rfl isfn_33 (Nat.le_of_ble_eq_true rfl) (fun R hR => ?_); rw [Try.results33] at hR; refine wg_run ?_; (simp only [Try.f33, go_sem])
      repeat' (first | (first | (((first | apply sp1 | apply sp2 | apply sp3 | apply sp4 | apply sp5 | apply sp6 | apply sp7) <;> intro hb) <;> (simp only [go_sem, hb])) | ((first | apply wm_done | apply wt_done | apply wg_run | refine fk ?_ ?_) <;> (simp only [go_sem]))) | (first | refine cdq ?_ (hc := hv) | refine cmq ?_ (hc := hv) | refine ctq ?_ (hc := hv)); (simp only [go_sem]) | ((first | refine kdq [] ?_ (hc := hl) | refine kmq [] ?_ (hc := hl) | refine ktq [] ?_ (hc := hl)); rintro _ _ ⟨rfl, rfl⟩ <;> (simp only [go_sem])) | (first | refine cdq ?_ (hc := s1) | refine cmq ?_ (hc := s1) | refine ctq ?_ (hc := s1)); (simp only [go_sem]) | (first | refine cdq ?_ (hc := s2) | refine cmq ?_ (hc := s2) | refine ctq ?_ (hc := s2)); (simp only [go_sem]) | fail)
      exact hR _ (rat [] (hK := (.inl ⟨rfl, rfl, rfl⟩)))
    | cons z m =>
      rw [el] at hl hll
      simp only [List.length_cons] at hll
      have s1 := sortCall (z :: m) (by simp only [List.length_cons]; omega)
      have s2 := compCall (srt (z :: m)) (by rw [srt_length]; simp only [List.length_cons]; omega)
      rw [srt_length] at s2
      simp only [List.length_cons] at s1 s2
      simp only [show Lib.compact (srt (z :: m)) = setL (z :: m) from rfl] at s2
      refine acl_in Try.func33 rfl isfn_33 (Nat.le_of_ble_eq_true rfl) (fun R hR => ?_); rw [Try.results33] at hR; refine wg_run ?_; (simp only [Try.f33, go_sem])
      repeat' (first | (first | (((first | apply sp1 | apply sp2 | apply sp3 | apply sp4 | apply sp5 | apply sp6 | apply sp7) <;> intro hb) <;> (simp only [go_sem, hb])) | ((first | apply wm_done | apply wt_done | apply wg_run | refine fk ?_ ?_) <;> (simp only [go_sem]))) | (first | refine cdq ?_ (hc := hv) | refine cmq ?_ (hc := hv) | refine ctq ?_ (hc := hv)); (simp only [go_sem]) | ((first | refine kdq [] ?_ (hc := hl) | refine kmq [] ?_ (hc := hl) | refine ktq [] ?_ (hc := hl)); rintro _ _ ⟨rfl, rfl⟩ <;> (simp only [go_sem])) | ((first | refine kdq [0] ?_ (hc := s1) | refine kmq [0] ?_ (hc := s1) | refine ktq [0] ?_ (hc := s1)); rintro _ _ ⟨rfl, rfl⟩ <;> (simp only [go_sem])) | ((first | refine kdq [1] ?_ (hc := s1) | refine kmq [1] ?_ (hc := s1) | refine ktq [1] ?_ (hc := s1)); rintro _ _ ⟨rfl, rfl⟩ <;> (simp only [go_sem])) | ((first | refine kdq [0] ?_ (hc := s2) | refine kmq [0] ?_ (hc := s2) | refine ktq [0] ?_ (hc := s2)); rintro _ _ ⟨rfl, rfl⟩ <;> (simp only [go_sem])) | ((first | refine kdq [1] ?_ (hc := s2) | refine kmq [1] ?_ (hc := s2) | refine ktq [1] ?_ (hc := s2)); rintro _ _ ⟨rfl, rfl⟩ <;> (simp only [go_sem])) | fail)
      first
        | exact hR _ (rwn [1] (hK := (.inr ⟨rfl, rfl⟩)))
        | exact hR _ (rwn [0] (hK := (.inr ⟨rfl, rfl⟩)))
end Go.Proofs.Ytbiobfbonpiiiaa
/- A law's arguments, read as shadows: what is of no type. -/
namespace Go.Proofs.Sh
open Go.RowKit Go.Proofs.Grad
theorem simNil (w : World) : Sim [] [] [] w :=
  ⟨rfl, by simp, by simp, fun i b g h => by simp at h, fun i j b b' g _ h => by simp at h, fun i b g h => by simp at h⟩
theorem lawCalls {P : Program} {f : FuncId} {args : List AV} {vs : Array Value} {w : World} (h : AFn P f args (.one (.sc (.bool true)))) (hr : AV.repl [] [] w args vs.toList) :
    Calls P f vs w (fun e w' => e = .returned (.bool true) ∧ Below w.heap.size w w') := by
  refine (h.out.2 [] [] w vs (simNil w) hr).mono ?_
  rintro e w' ⟨r, H', μ', v, rfl, ⟨rfl, rfl⟩, hS, hT, hv⟩
  simp only [AV.rep, C.rep] at hv
  refine ⟨by rw [hv.1], hT.keep.os, hT.keep.tape, hT.keep.output, hT.keep.size, fun b hb => hT.keep.block b (by simp [alive]) hb⟩
variable {w : World}
theorem reps_of {b : Nat} : ∀ {cs : List C} {ds : List Value} {off : Nat}, C.repl [] [] w cs ds → (∀ i, i < ds.length → w.cell? ⟨b, off + i, none⟩ = ds[i]?) → C.reps [] [] w cs b off
  | [], _, _, _, _ => trivial
  | c :: cs, ds, off, h, hc => by
    simp only [C.repl] at h
    obtain ⟨u, us, rfl, h1, h2⟩ := h
    refine ⟨⟨u, hc 0 (by simp), h1⟩, reps_of h2 fun i hi => ?_⟩
    have := hc (i + 1) (by simpa using hi)
    rw [show off + 1 + i = off + (i + 1) by omega]
    simpa using this
theorem repss_of {T : Type} (f : T → List C) {s b : Nat} (hf : ∀ t, (f t).length = s) : ∀ (l : List T) (off : Nat), (∀ i (hi : i < l.length), C.reps [] [] w (f l[i]) b (off + i * s)) → C.repss [] [] w s (l.map f) b off
  | [], _, _ => trivial
  | t :: l, off, h => by
    have h0 := h 0 (by simp)
    rw [Nat.zero_mul, Nat.add_zero] at h0
    refine ⟨hf t, h0, repss_of f hf l (off + s) fun i hi => ?_⟩
    have := h (i + 1) (by simpa using hi)
    rw [show off + s + i * s = off + (i + 1) * s by rw [Nat.add_mul]; omega]
    simpa using this
theorem add_plain {b o k : Nat} : (⟨b, o, none⟩ : Addr).add k = ⟨b, o + k, none⟩ := by
  unfold Addr.add; split <;> simp_all
theorem spot_plain {a : Addr} {v : Value} (h : w.cell? a = some v) : a.spot = none := by
  obtain ⟨b, o, s⟩ := a
  cases s with
  | none => rfl
  | some s =>
    simp only [World.cell?] at h
    split at h <;> simp at h
theorem sl_rep {T : Type} (f : T → List C) {s base : Nat} (hs : 0 < s) (hf : ∀ t, (f t).length = s) {a : Addr} {cap : Nat} (l : List T) (h : ∀ i (hi : i < l.length), ∃ ds, w.cells? base (a.add (i * s)) s = some ds ∧ C.repl [] [] w (f l[i]) ds) (hlc : l.length ≤ cap) (hcm : cap ≤ maxLen) :
    C.rep [] [] w (.sl (l.map f)) (.slice (some a) l.length cap) := by
  simp only [C.rep]
  refine ⟨some a, cap, by rw [List.length_map], by simpa using hlc, hcm, ?_⟩
  cases hl : l with
  | nil => exact .inl rfl
  | cons t0 l0 =>
    have h0 : 0 < l.length := by rw [hl]; simp
    obtain ⟨ds, g, _⟩ := h 0 h0
    obtain ⟨_, g2, g3⟩ := World.cells?_some g
    have g4 := g3 0 hs
    have : ∃ v, ds[0]? = some v := ⟨ds[0], List.getElem?_eq_getElem (by omega)⟩
    obtain ⟨v, hv⟩ := this
    rw [hv] at g4
    have hsp : a.spot = none := by
      have := spot_plain g4
      simp [Addr.add] at this
      exact this
    obtain ⟨b, o, sp⟩ := a
    simp at hsp
    subst hsp
    rw [add_plain, add_plain] at g4
    refine .inr ⟨b, o, s, rfl, lt_of_cell g4, by simp, ?_⟩
    rw [← hl]
    refine repss_of f hf l o fun i hi => ?_
    obtain ⟨ds, g, gr⟩ := h i hi
    obtain ⟨_, g2, g3⟩ := World.cells?_some g
    refine reps_of gr fun j hj => ?_
    have := g3 j (by omega)
    simpa [add_plain] using this
theorem listAll {α : Type} {n : Nat} {P : Nat → α → Prop} (h : ∀ i, i < n → ∃ x, P i x) : ∃ l : List α, l.length = n ∧ ∀ i (hi : i < l.length), P i l[i] := by
  induction n with
  | zero => exact ⟨[], rfl, by simp⟩
  | succ n ih =>
    obtain ⟨l, hl, hp⟩ := ih fun i hi => h i (by omega)
    obtain ⟨x, hx⟩ := h n (by omega)
    refine ⟨l ++ [x], by simp [hl], fun i hi => ?_⟩
    by_cases hil : i < l.length
    · rw [List.getElem_append_left hil]; exact hp i hil
    · have : i = l.length := by simp at hi; omega
      subst this
      rw [List.getElem_append_right (by omega)]
      simp only [Nat.sub_self, List.getElem_cons_zero]
      rw [hl]; exact hx
theorem rep_nil {s : Nat} : C.rep [] [] w (.sl []) (.slice none 0 s) ↔ s ≤ maxLen := by
  simp only [C.rep, List.length_nil]
  exact ⟨fun ⟨_, c, e, _, h, _⟩ => by cases e; exact h, fun h => ⟨none, s, rfl, Nat.zero_le _, h, .inl trivial⟩⟩
end Go.Proofs.Sh
namespace Go.Proofs.Ytbiobfbonpiiiaa
open Go.RowKit Go.Proofs.Sh Go.Proofs.Grad
open Go.ChangeShapes Go.WideShapes Go.ChangeAt
theorem ownKT : ownKnob Try.prog.godebug = none := by kernel_rfl
theorem laidKT : laidOutB Try.prog = true := by kernel_rfl
end Go.Proofs.Ytbiobfbonpiiiaa
/- A law's arguments that are coercions, read as shadows. -/
namespace Go.Proofs.Sh
open Go.RowKit Go.Proofs.Grad
theorem coR_map (l : List Co) : coR l = l.map coC := by
  induction l with
  | nil => rfl
  | cons t l ih => simp [coR, ih]
end Go.Proofs.Sh
namespace Go.Proofs.Ytbiobfbonpiiiaa
open Go.RowKit Go.Proofs.Sh Go.Proofs.Grad
open Go.ChangeShapes Go.WideShapes Go.ChangeAt
variable {H : Type} {enc : TypeId × Value → H} {w : World} {base : Nat} {spare : Nat → Bool} {held : Bool}
set_option maxRecDepth 100000 in
theorem opn_Co : ∀ (n fuel : Nat) (cs : List Value) (x : DataW H × List MemPlace), fuel ≤ n → DataW.trod enc Try.prog w base spare held fuel 50 cs = some x → ∃ t : Co, C.repl [] [] w (coC t) cs ∧ t.fits := by
  intro n
  induction n with
  | zero =>
    intro fuel cs x hf h
    obtain rfl : fuel = 0 := by omega
    simp [DataW.trod] at h
  | succ n ih =>
    intro fuel cs x hf h
    obtain ⟨xs, m, hm, hx, hl, hlen, hfs⟩ := DataW.trod_struct Try.underlying50 h
    have hc : Try.prog.cellsOf 50 = 4 := by kernel_rfl
    have hc1 : Try.prog.cellsOf 3 = 1 := by kernel_rfl
    have hc2 : Try.prog.cellsOf 48 = 1 := by kernel_rfl
    rw [hc] at hl
    match cs, hl with
    | [c0, c1, c2, c3], _ =>
      have f0 : DataW.trod enc Try.prog w base spare held m 3 (([c0, c1, c2, c3].drop 0).take (Try.prog.cellsOf 3)) = xs[0]? := hfs 0 _ rfl
      have f1 : DataW.trod enc Try.prog w base spare held m 3 (([c0, c1, c2, c3].drop 1).take (Try.prog.cellsOf 3)) = xs[1]? := hfs 1 _ rfl
      have f2 : DataW.trod enc Try.prog w base spare held m 3 (([c0, c1, c2, c3].drop 2).take (Try.prog.cellsOf 3)) = xs[2]? := hfs 2 _ rfl
      have f3 : DataW.trod enc Try.prog w base spare held m 48 (([c0, c1, c2, c3].drop 3).take (Try.prog.cellsOf 48)) = xs[3]? := hfs 3 _ rfl
      rw [hc1] at f0 f1 f2
      rw [hc2] at f3
      simp at hlen
      rw [List.getElem?_eq_getElem (by omega)] at f0 f1 f2 f3
      simp at f0 f1 f2 f3
      obtain ⟨k0, e0, _, _⟩ := DataW.trod_int Try.underlying3 f0
      obtain ⟨k1, e1', _, _⟩ := DataW.trod_int Try.underlying3 f1
      obtain ⟨k2, e2, _, _⟩ := DataW.trod_int Try.underlying3 f2
      simp at e0 e1' e2
      subst e0 e1' e2
      rcases DataW.trod_slice Try.underlying48 f3 with ⟨e1, _⟩ | ⟨a, len, cap, elems, rest, m', hm', e1, _, hb, hlc, hcm, hel, hall, _, _⟩
      · simp at e1
        subst e1
        refine ⟨.mk k0 k1 k2 [], ?_, ⟨by simp, trivial⟩⟩
        simp only [coC, coR, C.repl]
        exact ⟨_, _, rfl, ⟨rfl, rfl⟩, _, _, rfl, ⟨rfl, rfl⟩, _, _, rfl, ⟨rfl, rfl⟩, _, _, rfl, rep_nil.2 (by simp [maxLen]), rfl⟩
      · simp at e1
        subst e1
        have hkid : ∀ i, i < len → ∃ t : Co, (∃ ds, w.cells? base (a.add (i * 4)) 4 = some ds ∧ C.repl [] [] w (coC t) ds) ∧ t.fits := by
          intro i hi
          have h1 := hall i hi
          rw [hc, List.getElem?_eq_getElem (by omega)] at h1
          cases h2 : w.cells? base (a.add (i * 4)) 4 with
          | none => rw [h2] at h1; simp at h1
          | some ds =>
            rw [h2] at h1
            simp only [Option.bind_some] at h1
            obtain ⟨t, hr, hf⟩ := ih m' ds _ (by omega) h1
            exact ⟨t, ⟨ds, rfl, hr⟩, hf⟩
        obtain ⟨l, hl, hp⟩ := listAll hkid
        subst hl
        refine ⟨.mk k0 k1 k2 l, ?_, ⟨by simp only [maxLen] at hcm; omega, Co.fitss_of fun i hi => (hp i hi).2⟩⟩
        simp only [coC, C.repl]
        refine ⟨_, _, rfl, ⟨rfl, rfl⟩, _, _, rfl, ⟨rfl, rfl⟩, _, _, rfl, ⟨rfl, rfl⟩, _, _, rfl, ?_, rfl⟩
        rw [coR_map]
        exact sl_rep coC (by omega) coC_length l (fun i hi => (hp i hi).1) hlc hcm
set_option maxRecDepth 100000 in
theorem open_CoS {v : Value} {d : DataW H} {p : List MemPlace} {r : Reach} {b0 : Nat} (hv : Value.okWide Try.prog w r b0 50 v) (h : DataW.Trod enc Try.prog w base spare held 50 v d p) : ∃ t : Co, AV.rep [] [] w (.agg (coC t)) v ∧ t.fits := by
  obtain ⟨cs, rfl, _⟩ := okWide_struct Try.underlying50 hv
  obtain ⟨fuel, hu⟩ := h
  obtain ⟨t, hr, hf⟩ := opn_Co fuel fuel _ _ (Nat.le_refl _) hu
  refine ⟨t, ?_, hf⟩
  simp only [AV.rep]
  exact ⟨cs, rfl, hr⟩
end Go.Proofs.Ytbiobfbonpiiiaa
