/- Texts of the proof, one behind another. -/
import Derived.Test.YtchcbfbnffhifaaRows
import Derived.ProofKit
import Derived.OpenShut
import Derived.Test.YtchcbfbnffhifaaKV8
import Derived.Test.YtchcbfbnffhifaaKV11
import Derived.Test.YtchcbfbnffhifaaKV15
import Derived.Test.YtchcbfbnffhifaaKV17
import Derived.Test.YtchcbfbnffhifaaKV19
set_option linter.unusedSimpArgs false
set_option linter.unusedVariables false
/- The law's marks, read again. On shadows. -/
namespace Go.Proofs.Grad
open Go.Proofs.Sh
theorem Ty.marks_kid {l : List Ty} {k i : Nat} (h : i < l.length) : kid (Ty.marks l k) i = (kid l i).mark (k + Ty.sizes (l.take i)) := by
  have h1 := Ty.marks_append (l.take i) (l.drop i) k
  rw [List.take_append_drop] at h1
  have hl : (Ty.marks (l.take i) k).length = i := by rw [Ty.marks_length, List.length_take]; omega
  rw [h1, kid, List.getD_eq_getElem?_getD, List.getElem?_append_right (by omega), hl, Nat.sub_self, drop_kid h]
  rfl
theorem Tm.marks_kid {l : List Tm} {k i : Nat} (h : i < l.length) : teKid (Tm.marks l k) i = (teKid l i).mark (k + Tm.mws (l.take i)) := by
  have h1 := Tm.marks_append (l.take i) (l.drop i) k
  rw [List.take_append_drop] at h1
  have hl : (Tm.marks (l.take i) k).length = i := by rw [Tm.marks_length, List.length_take]; omega
  rw [h1, teKid, List.getD_eq_getElem?_getD, List.getElem?_append_right (by omega), hl, Nat.sub_self, tedrop_kid h]
  rfl
end Go.Proofs.Grad
namespace Go.Proofs.Ytchcbfbnffhifaa
open Go.RowKit Go.Proofs.Sh Go.Proofs.Grad
set_option maxRecDepth 100000
set_option maxHeartbeats 8000000
theorem heldTyS (n : Nat) (hn : n ≤ 1000000000) : ∀ (l : List Ty), Ty.sizes l < n → ∀ k : Nat, k + Ty.sizes l < 4000000000 → AFn Try.prog 128 [.one (.sl (tyR (Ty.marks l k))), .one (.sc (.int .i64 (k : Nat)))] (.one (.sc (.int .i64 ((k + Ty.sizes l : Nat))))) := by
  induction n with
  | zero => intro l h; omega
  | succ n ih =>
    intro l hl k hk
    have hml := Ty.marks_length l k
    refine fn_in ?_; refine acl_in Try.func128 rfl isfn_128 (Nat.le_of_ble_eq_true rfl) (fun R hR => ?_); rw [Try.results128] at hR; refine wg_run ?_; (simp only [Try.f128, go_sem])
    refine wd_for [0, 1, 5] (fun i => [.one (.sl (tyR (Ty.marks l k))), .one (.sc (.int .i64 ((k + Ty.sizes (l.take i) : Nat)))), .one (.sc (.int .i64 (i : Nat)))]) (fun _ => [])
      (fun i => i ≤ l.length) (fun i => l.length - i) 0 (Nat.zero_le _) (head_all (by (simp only [go_sem]); first | done | rfl) ⟨rfl, rfl⟩) ?_
    rintro i hi G hG
    refine wg_run ?_
    (simp only [go_sem, hml])
    ((first | apply sp1 | apply sp2 | apply sp3 | apply sp4 | apply sp5 | apply sp6 | apply sp7) <;> intro hb) <;> (simp only [go_sem, hb])
    · have hi1 : i < l.length := by have := of_decide_eq_true hb; omega
      have hsz := Ty.sizes_take hi1
      have hszl := Ty.sizes_take_le l (i + 1)
      have hkp : (kid l i).size = 1 + Ty.sizes (kid l i).kids := by cases kid l i; simp only [Ty.size, Ty.kids]
      have hw1 : IntKind.i64.wrap (((i : Nat) : Int) + 1) = ((i + 1 : Nat) : Int) := wrap_succ hi1 (by have := Ty.length_le_sizes l; omega)
      have hm := Ty.marks_kid (k := k) hi1
      rw [Ty.mark_eq] at hm
      obtain ⟨K, hK⟩ : ∃ K, K = k + Ty.sizes (l.take i) := ⟨_, rfl⟩
      rw [← hK] at hm
      have hmk : (kid (Ty.marks l k) i).kind = ((K : Nat) : Int) := by rw [hm]; rfl
      have hmi : (kid (Ty.marks l k) i).kids = Ty.marks (kid l i).kids (K + 1) := by rw [hm]; rfl
      have hne : ((K : Int) != (K : Int)) = false := by simp
      have hc := ih (by omega) (kid l i).kids (by omega) (K + 1) (by omega)
      have hw2 : IntKind.i64.wrap (((K : Nat) : Int) + 1) = ((K + 1 : Nat) : Int) := by rw [IntWalk.i64_in _ (by omega)]; omega
      rw [show K + 1 + Ty.sizes (kid l i).kids = k + Ty.sizes (l.take (i + 1)) from by omega] at hc
      have hlt : decide (((k + Ty.sizes (l.take (i + 1)) : Nat) : Int) < 0) = false := by simp; omega
      rw [← hK]
      repeat' (first | (first | (simp only [go_sem, hb, hml, hmk, hmi, hne, hw1, hw2, hlt]) | (((first | apply sp1 | apply sp2 | apply sp3 | apply sp4 | apply sp5 | apply sp6 | apply sp7) <;> intro hb) <;> (simp only [go_sem, hb, hb, hml, hmk, hmi, hne, hw1, hw2, hlt])) | ((first | apply wm_done | apply wt_done | apply wg_run | refine fk ?_ ?_) <;> (simp only [go_sem, hb, hml, hmk, hmi, hne, hw1, hw2, hlt]))) | (first | refine cdq ?_ (hc := hc) | refine cmq ?_ (hc := hc) | refine ctq ?_ (hc := hc)); (simp only [go_sem]))
      exact hG (i + 1) _ _ hi1 (by omega) (head_all (by (simp only [go_sem]); first | done | rfl) ⟨rfl, rfl⟩)
    · have hi1 : i = l.length := by have := of_decide_eq_false hb; omega
      subst hi1
      (refine hR _ (rat [] (hK := ⟨?_, rfl⟩)))
      rw [List.take_length]
theorem heldTy (l : List Ty) (hl : Ty.sizes l < 1000000000) (k : Nat) (hk : k + Ty.sizes l < 4000000000) (kd : Int) : AFn Try.prog 79 [.agg [.sc (.int .i64 kd), .sl (tyR (Ty.marks l k))], .one (.sc (.int .i64 (k : Nat)))] (.one (.sc (.int .i64 ((k + Ty.sizes l : Nat))))) := by
  have hc := heldTyS 1000000000 (by omega) l hl k hk
  have hlt : decide (((k + Ty.sizes l : Nat) : Int) < 0) = false := by simp; omega
  refine fn_in ?_; refine acl_in Try.func79 rfl isfn_79 (Nat.le_of_ble_eq_true rfl) (fun R hR => ?_); rw [Try.results79] at hR; refine wg_run ?_; (simp only [Try.f79, go_sem])
  repeat' (first | (first | (simp only [go_sem, hlt]) | (((first | apply sp1 | apply sp2 | apply sp3 | apply sp4 | apply sp5 | apply sp6 | apply sp7) <;> intro hb) <;> (simp only [go_sem, hb, hlt])) | ((first | apply wm_done | apply wt_done | apply wg_run | refine fk ?_ ?_) <;> (simp only [go_sem, hlt]))) | (first | refine cdq ?_ (hc := hc) | refine cmq ?_ (hc := hc) | refine ctq ?_ (hc := hc)); (simp only [go_sem]))
  (refine hR _ (rat [] (hK := ⟨rfl, rfl⟩)))
theorem heldTmS (n : Nat) (hn : n ≤ 1000000000) : ∀ (l : List Tm), Tm.mws l < n → ∀ k : Nat, 0 < k → k + Tm.mws l < 1000000000 → AFn Try.prog 80 [.one (.sl (teR (Tm.marks l k))), .one (.sc (.int .i64 (k : Nat)))] (.one (.sc (.int .i64 ((k + Tm.mws l : Nat))))) := by
  induction n with
  | zero => intro l h; omega
  | succ n ih =>
    intro l hl k hk0 hk
    have hml := Tm.marks_length l k
    refine fn_in ?_; refine acl_in Try.func80 rfl isfn_80 (Nat.le_of_ble_eq_true rfl) (fun R hR => ?_); rw [Try.results80] at hR; refine wg_run ?_; (simp only [Try.f80, go_sem])
    refine wd_for [0, 1, 5] (fun i => [.one (.sl (teR (Tm.marks l k))), .one (.sc (.int .i64 ((k + Tm.mws (l.take i) : Nat)))), .one (.sc (.int .i64 (i : Nat)))]) (fun _ => [])
      (fun i => i ≤ l.length) (fun i => l.length - i) 0 (Nat.zero_le _) (head_all (by (simp only [go_sem]); first | done | rfl) ⟨rfl, rfl⟩) ?_
    rintro i hi G hG
    refine wg_run ?_
    (simp only [go_sem, hml])
    ((first | apply sp1 | apply sp2 | apply sp3 | apply sp4 | apply sp5 | apply sp6 | apply sp7) <;> intro hb) <;> (simp only [go_sem, hb])
    · have hi1 : i < l.length := by have := of_decide_eq_true hb; omega
      have hsz := Tm.mws_take hi1
      have hszl := Tm.mws_take_le l (i + 1)
      have hkp := (teKid l i).mw_eq
      have hw1 : IntKind.i64.wrap (((i : Nat) : Int) + 1) = ((i + 1 : Nat) : Int) := wrap_succ hi1 (by have := Tm.len_mws l; omega)
      have hm := Tm.marks_kid (k := k) hi1
      rw [Tm.mark_eq] at hm
      obtain ⟨K, hK⟩ : ∃ K, K = k + Tm.mws (l.take i) := ⟨_, rfl⟩
      rw [← hK] at hm
      obtain ⟨st, hst⟩ : ∃ st, st = Ty.sizes (teKid l i).type.kids := ⟨_, rfl⟩
      obtain ⟨sf, hsf⟩ : ∃ sf, sf = Ty.sizes (teKid l i).frm.kids := ⟨_, rfl⟩
      rw [← hst, ← hsf] at hkp hm
      have m0 : (teKid (Tm.marks l k) i).kind = ((K : Nat) : Int) := by rw [hm]; rfl
      have m1 : (teKid (Tm.marks l k) i).name = mkT (K + 1) := by rw [hm]; rfl
      have m2 : (teKid (Tm.marks l k) i).num = ((K + 2 : Nat) : Int) := by rw [hm]; rfl
      have m3 : (teKid (Tm.marks l k) i).type.kind = ((K + 3 : Nat) : Int) := by rw [hm]; rfl
      have m4 : (teKid (Tm.marks l k) i).type.kids = Ty.marks (teKid l i).type.kids (K + 4) := by rw [hm]; rfl
      have m5 : (teKid (Tm.marks l k) i).frm.kind = ((K + 4 + st : Nat) : Int) := by rw [hm]; rfl
      have m6 : (teKid (Tm.marks l k) i).frm.kids = Ty.marks (teKid l i).frm.kids (K + 4 + st + 1) := by rw [hm]; rfl
      have m7 : (teKid (Tm.marks l k) i).label = ((K + 4 + st + 1 + sf : Nat) : Int) := by rw [hm]; rfl
      have m8 : (teKid (Tm.marks l k) i).kids = Tm.marks (teKid l i).kids (K + 4 + st + 1 + sf + 1) := by rw [hm]; rfl
      have hne : ∀ j : Nat, ((j : Int) != (j : Int)) = false := fun j => by simp
      have hne2 : ∀ b : ByteArray, (!(b.toList == b.toList)) = false := fun b => by simp
      have hw2 : ∀ j : Nat, j < 1000000000 → IntKind.i64.wrap (((j : Nat) : Int) + 1) = ((j + 1 : Nat) : Int) := fun j hj => by rw [IntWalk.i64_in _ (by omega)]; omega
      have w1 := hw2 K (by omega)
      have w2 := hw2 (K + 1) (by omega)
      have w3 := hw2 (K + 2) (by omega)
      have w4 := hw2 (K + 3) (by omega)
      have w5 := hw2 (K + 4 + st) (by omega)
      have w6 := hw2 (K + 4 + st + 1 + sf) (by omega)
      have hmt := markText (K + 1) (by omega) (by omega)
      have h1 := heldTyS 1000000000 (by omega) (teKid l i).type.kids (by omega) (K + 4) (by omega)
      have h2 := heldTyS 1000000000 (by omega) (teKid l i).frm.kids (by omega) (K + 4 + st + 1) (by omega)
      rw [← hst] at h1
      rw [← hsf] at h2
      have h3 := ih (by omega) (teKid l i).kids (by omega) (K + 4 + st + 1 + sf + 1) (by omega) (by omega)
      rw [show K + 4 + st + 1 + sf + 1 + Tm.mws (teKid l i).kids = k + Tm.mws (l.take (i + 1)) from by omega] at h3
      have hlt : ∀ j : Nat, decide ((j : Int) < 0) = false := fun j => by simp
      rw [← hK]
      repeat' (first | (first | (simp only [go_sem, hb, hml, m0, m1, m2, m3, m4, m5, m6, m7, m8, hne, hne2, hw1, w1, w2, w3, w4, w5, w6, hlt]) | (((first | apply sp1 | apply sp2 | apply sp3 | apply sp4 | apply sp5 | apply sp6 | apply sp7) <;> intro hb) <;> (simp only [go_sem, hb, hb, hml, m0, m1, m2, m3, m4, m5, m6, m7, m8, hne, hne2, hw1, w1, w2, w3, w4, w5, w6, hlt])) | ((first | apply wm_done | apply wt_done | apply wg_run | refine fk ?_ ?_) <;> (simp only [go_sem, hb, hml, m0, m1, m2, m3, m4, m5, m6, m7, m8, hne, hne2, hw1, w1, w2, w3, w4, w5, w6, hlt]))) | ((first | refine mxq6 [] ?_ | refine mxq5 [] ?_ | refine mxq4 [] ?_ | refine mxq3 [] ?_ | refine mxq2 [] ?_ | refine mxq1 [] ?_ | refine mxq0 [] ?_ | fail); (simp only [go_sem, hml, m1])) | (first | refine cdq ?_ (hc := hmt) | refine cmq ?_ (hc := hmt) | refine ctq ?_ (hc := hmt)); (simp only [go_sem]) | (first | refine cdq ?_ (hc := h1) | refine cmq ?_ (hc := h1) | refine ctq ?_ (hc := h1)); (simp only [go_sem]) | (first | refine cdq ?_ (hc := h2) | refine cmq ?_ (hc := h2) | refine ctq ?_ (hc := h2)); (simp only [go_sem]) | (first | refine cdq ?_ (hc := h3) | refine cmq ?_ (hc := h3) | refine ctq ?_ (hc := h3)); (simp only [go_sem]))
      exact hG (i + 1) _ _ hi1 (by omega) (head_all (by (simp only [go_sem]); first | done | rfl) ⟨rfl, rfl⟩)
    · have hi1 : i = l.length := by have := of_decide_eq_false hb; omega
      subst hi1
      (refine hR _ (rat [] (hK := ⟨?_, rfl⟩)))
      rw [List.take_length]
theorem heldTm (t : Tm) (k : Nat) (hk0 : 0 < k) (hk : k + t.mwT < 1000000000) : AFn Try.prog 35 [.agg (teC (t.markT k)), .one (.sc (.int .i64 (k : Nat)))] (.one (.sc (.int .i64 ((k + t.mwT : Nat))))) := by
  have hm : t.mwT = Ty.sizes t.type.kids + Ty.sizes t.frm.kids + Tm.mws t.kids := rfl
  have h1 := heldTy t.type.kids (by omega) k (by omega) t.type.kind
  have h2 := heldTy t.frm.kids (by omega) (k + Ty.sizes t.type.kids) (by omega) t.frm.kind
  have h3 := heldTmS 1000000000 (by omega) t.kids (by omega) (k + Ty.sizes t.type.kids + Ty.sizes t.frm.kids) (by omega) (by omega)
  rw [show k + Ty.sizes t.type.kids + Ty.sizes t.frm.kids + Tm.mws t.kids = k + t.mwT from by omega] at h3
  have hlt : ∀ j : Nat, decide ((j : Int) < 0) = false := fun j => by simp
  rw [teC_eq]
  simp only [Tm.markT, go_sem]
  simp only [Ty.kind, Ty.kids]
  refine fn_in ?_; refine acl_in Try.func35 rfl isfn_35 (Nat.le_of_ble_eq_true rfl) (fun R hR => ?_); rw [Try.results35] at hR; refine wg_run ?_; (simp only [Try.f35, go_sem])
  repeat' (first | (first | (simp only [go_sem, hlt]) | (((first | apply sp1 | apply sp2 | apply sp3 | apply sp4 | apply sp5 | apply sp6 | apply sp7) <;> intro hb) <;> (simp only [go_sem, hb, hlt])) | ((first | apply wm_done | apply wt_done | apply wg_run | refine fk ?_ ?_) <;> (simp only [go_sem, hlt]))) | (first | refine cdq ?_ (hc := h1) | refine cmq ?_ (hc := h1) | refine ctq ?_ (hc := h1)); (simp only [go_sem]) | (first | refine cdq ?_ (hc := h2) | refine cmq ?_ (hc := h2) | refine ctq ?_ (hc := h2)); (simp only [go_sem]) | (first | refine cdq ?_ (hc := h3) | refine cmq ?_ (hc := h3) | refine ctq ?_ (hc := h3)); (simp only [go_sem]))
  (refine hR _ (rat [] (hK := ⟨rfl, rfl⟩)))
theorem mwT_le (t : Tm) : t.mwT ≤ 6 * t.size := by
  have h1 := Ty.sizes_kids t.type; have h2 := Ty.sizes_kids t.frm; have h3 := Tm.mws_le t.kids
  cases t
  simp only [Tm.mwT, Tm.size, Tm.type, Tm.frm, Tm.kids] at *; omega
/-- a term is marked -/
theorem markOwn {t : Tm} {p k : Nat} {pre T : List Blk} {cs : List C} {ids : List Nat} (h : OwnT p T cs (teC t) ids) (hp : pre.length = p) (hk0 : 0 < k) (hk : k + t.mwT < 1000000000) :
    ∃ ks, ACalls Try.prog 34 [.agg cs, .one (.sc (.int .i64 (k : Nat)))] (pre ++ T) ks (fun r h' => ∃ T', r = .one (.sc (.int .i64 ((k + t.mwT : Nat)))) ∧ h' = pre ++ T' ∧ T.length ≤ T'.length ∧ (∀ i, i < T.length → i + p ∉ ids → T'[i]? = T[i]?) ∧ OwnT p T' cs (teC (t.markT k)) ids) := by
  obtain ⟨d, hd⟩ := h.own
  exact acalls_changeT hp h.ge h.nodup ⟨d, (markTm t _ cs d ids k hk0 hk (hd pre hp) h.nodup)⟩
end Go.Proofs.Ytchcbfbnffhifaa
/- A law's arguments that are types and terms, read as shadows. -/
namespace Go.Proofs.Sh
open Go.RowKit Go.Proofs.Grad
theorem simNil (w : World) : Sim [] [] [] w :=
  ⟨rfl, by simp, by simp, fun i b g h => by simp at h, fun i j b b' g _ h => by simp at h, fun i b g h => by simp at h⟩
theorem lawCalls {P : Program} {f : FuncId} {args : List AV} {vs : Array Value} {w : World} (h : AFn P f args (.one (.sc (.bool true)))) (hr : AV.repl [] [] w args vs.toList) :
    Calls P f vs w (fun e w' => e = .returned (.bool true) ∧ Below w.heap.size w w') := by
  refine (h.out.2 [] [] w vs (simNil w) hr).mono ?_
  rintro e w' ⟨r, H', μ', v, rfl, ⟨rfl, rfl⟩, hS, hT, hv⟩
  simp only [AV.rep, C.rep] at hv
  refine ⟨by rw [hv.1], hT.keep.os, hT.keep.tape, hT.keep.output, hT.keep.size, fun b hb => hT.keep.block b (by simp [alive]) hb⟩
variable {w : World}
theorem reps_of {b : Nat} : ∀ {cs : List C} {ds : List Value} {off : Nat}, C.repl [] [] w cs ds → (∀ i, i < ds.length → w.cell? ⟨b, off + i, none⟩ = ds[i]?) → C.reps [] [] w cs b off
  | [], _, _, _, _ => trivial
  | c :: cs, ds, off, h, hc => by
    simp only [C.repl] at h
    obtain ⟨u, us, rfl, h1, h2⟩ := h
    refine ⟨⟨u, hc 0 (by simp), h1⟩, reps_of h2 fun i hi => ?_⟩
    have := hc (i + 1) (by simpa using hi)
    rw [show off + 1 + i = off + (i + 1) by omega]
    simpa using this
theorem repss_of {T : Type} (f : T → List C) {s b : Nat} (hf : ∀ t, (f t).length = s) : ∀ (l : List T) (off : Nat), (∀ i (hi : i < l.length), C.reps [] [] w (f l[i]) b (off + i * s)) → C.repss [] [] w s (l.map f) b off
  | [], _, _ => trivial
  | t :: l, off, h => by
    have h0 := h 0 (by simp)
    rw [Nat.zero_mul, Nat.add_zero] at h0
    refine ⟨hf t, h0, repss_of f hf l (off + s) fun i hi => ?_⟩
    have := h (i + 1) (by simpa using hi)
    rw [show off + s + i * s = off + (i + 1) * s by rw [Nat.add_mul]; omega]
    simpa using this
theorem add_plain {b o k : Nat} : (⟨b, o, none⟩ : Addr).add k = ⟨b, o + k, none⟩ := by
  unfold Addr.add; split <;> simp_all
theorem spot_plain {a : Addr} {v : Value} (h : w.cell? a = some v) : a.spot = none := by
  obtain ⟨b, o, s⟩ := a
  cases s with
  | none => rfl
  | some s =>
    simp only [World.cell?] at h
    split at h <;> simp at h
theorem sl_rep {T : Type} (f : T → List C) {s base : Nat} (hs : 0 < s) (hf : ∀ t, (f t).length = s) {a : Addr} {cap : Nat} (l : List T) (h : ∀ i (hi : i < l.length), ∃ ds, w.cells? base (a.add (i * s)) s = some ds ∧ C.repl [] [] w (f l[i]) ds) (hlc : l.length ≤ cap) (hcm : cap ≤ maxLen) :
    C.rep [] [] w (.sl (l.map f)) (.slice (some a) l.length cap) := by
  simp only [C.rep]
  refine ⟨some a, cap, by rw [List.length_map], by simpa using hlc, hcm, ?_⟩
  cases hl : l with
  | nil => exact .inl rfl
  | cons t0 l0 =>
    have h0 : 0 < l.length := by rw [hl]; simp
    obtain ⟨ds, g, _⟩ := h 0 h0
    obtain ⟨_, g2, g3⟩ := World.cells?_some g
    have g4 := g3 0 hs
    have : ∃ v, ds[0]? = some v := ⟨ds[0], List.getElem?_eq_getElem (by omega)⟩
    obtain ⟨v, hv⟩ := this
    rw [hv] at g4
    have hsp : a.spot = none := by
      have := spot_plain g4
      simp [Addr.add] at this
      exact this
    obtain ⟨b, o, sp⟩ := a
    simp at hsp
    subst hsp
    rw [add_plain, add_plain] at g4
    refine .inr ⟨b, o, s, rfl, lt_of_cell g4, by simp, ?_⟩
    rw [← hl]
    refine repss_of f hf l o fun i hi => ?_
    obtain ⟨ds, g, gr⟩ := h i hi
    obtain ⟨_, g2, g3⟩ := World.cells?_some g
    refine reps_of gr fun j hj => ?_
    have := g3 j (by omega)
    simpa [add_plain] using this
theorem listAll {α : Type} {n : Nat} {P : Nat → α → Prop} (h : ∀ i, i < n → ∃ x, P i x) : ∃ l : List α, l.length = n ∧ ∀ i (hi : i < l.length), P i l[i] := by
  induction n with
  | zero => exact ⟨[], rfl, by simp⟩
  | succ n ih =>
    obtain ⟨l, hl, hp⟩ := ih fun i hi => h i (by omega)
    obtain ⟨x, hx⟩ := h n (by omega)
    refine ⟨l ++ [x], by simp [hl], fun i hi => ?_⟩
    by_cases hil : i < l.length
    · rw [List.getElem_append_left hil]; exact hp i hil
    · have : i = l.length := by simp at hi; omega
      subst this
      rw [List.getElem_append_right (by omega)]
      simp only [Nat.sub_self, List.getElem_cons_zero]
      rw [hl]; exact hx
theorem tyR_map (l : List Ty) : tyR l = l.map tyC := by
  induction l with
  | nil => rfl
  | cons t l ih => simp [tyR, ih]
theorem teR_map (l : List Tm) : teR l = l.map teC := by
  induction l with
  | nil => rfl
  | cons t l ih => simp [teR, ih]
theorem rep_nil {s : Nat} : C.rep [] [] w (.sl []) (.slice none 0 s) ↔ s ≤ maxLen := by
  simp only [C.rep, List.length_nil]
  exact ⟨fun ⟨_, c, e, _, h, _⟩ => by cases e; exact h, fun h => ⟨none, s, rfl, Nat.zero_le _, h, .inl trivial⟩⟩
end Go.Proofs.Sh
namespace Go.Proofs.Ytchcbfbnffhifaa
open Go.RowKit Go.Proofs.Sh Go.Proofs.Grad
open Go.ChangeShapes Go.WideShapes Go.ChangeAt
theorem ownKT : ownKnob Try.prog.godebug = none := by kernel_rfl
theorem laidKT : laidOutB Try.prog = true := by kernel_rfl
variable {H : Type} {enc : TypeId × Value → H} {w : World} {base : Nat} {spare : Nat → Bool} {held : Bool}
set_option maxRecDepth 100000 in
theorem opn_Ty : ∀ (n fuel : Nat) (cs : List Value) (x : DataW H × List MemPlace), fuel ≤ n → DataW.trod enc Try.prog w base spare held fuel 24 cs = some x → ∃ t : Ty, C.repl [] [] w (tyC t) cs ∧ t.fits := by
  intro n
  induction n with
  | zero =>
    intro fuel cs x hf h
    obtain rfl : fuel = 0 := by omega
    simp [DataW.trod] at h
  | succ n ih =>
    intro fuel cs x hf h
    obtain ⟨xs, m, hm, hx, hl, hlen, hfs⟩ := DataW.trod_struct Try.underlying24 h
    have hc : Try.prog.cellsOf 24 = 2 := by kernel_rfl
    have hc1 : Try.prog.cellsOf 3 = 1 := by kernel_rfl
    have hc2 : Try.prog.cellsOf 22 = 1 := by kernel_rfl
    rw [hc] at hl
    match cs, hl with
    | [c0, c1], _ =>
      have f0 : DataW.trod enc Try.prog w base spare held m 3 (([c0, c1].drop 0).take (Try.prog.cellsOf 3)) = xs[0]? := hfs 0 _ rfl
      have f1 : DataW.trod enc Try.prog w base spare held m 22 (([c0, c1].drop 1).take (Try.prog.cellsOf 22)) = xs[1]? := hfs 1 _ rfl
      rw [hc1] at f0
      rw [hc2] at f1
      simp at hlen
      rw [List.getElem?_eq_getElem (by omega)] at f0 f1
      simp at f0 f1
      obtain ⟨k, e0, _, _⟩ := DataW.trod_int Try.underlying3 f0
      simp at e0
      subst e0
      rcases DataW.trod_slice Try.underlying22 f1 with ⟨e1, _⟩ | ⟨a, len, cap, elems, rest, m', hm', e1, _, hb, hlc, hcm, hel, hall, _, _⟩
      · simp at e1
        subst e1
        refine ⟨.mk k [], ?_, ⟨by simp, trivial⟩⟩
        simp only [tyC, tyR, C.repl]
        exact ⟨_, _, rfl, ⟨rfl, rfl⟩, _, _, rfl, rep_nil.2 (by simp [maxLen]), rfl⟩
      · simp at e1
        subst e1
        have hkid : ∀ i, i < len → ∃ t : Ty, (∃ ds, w.cells? base (a.add (i * 2)) 2 = some ds ∧ C.repl [] [] w (tyC t) ds) ∧ t.fits := by
          intro i hi
          have h1 := hall i hi
          rw [hc, List.getElem?_eq_getElem (by omega)] at h1
          cases h2 : w.cells? base (a.add (i * 2)) 2 with
          | none => rw [h2] at h1; simp at h1
          | some ds =>
            rw [h2] at h1
            simp only [Option.bind_some] at h1
            obtain ⟨t, hr, hf⟩ := ih m' ds _ (by omega) h1
            exact ⟨t, ⟨ds, rfl, hr⟩, hf⟩
        obtain ⟨l, hl, hp⟩ := listAll hkid
        subst hl
        refine ⟨.mk k l, ?_, ⟨by simp only [maxLen] at hcm; omega, Ty.fitss_of fun i hi => (hp i hi).2⟩⟩
        simp only [tyC, C.repl]
        refine ⟨_, _, rfl, ⟨rfl, rfl⟩, _, _, rfl, ?_, rfl⟩
        rw [tyR_map]
        exact sl_rep tyC (by omega) tyC_length l (fun i hi => (hp i hi).1) hlc hcm
theorem repl_one {c : C} {v : Value} (h : C.rep [] [] w c v) : C.repl [] [] w [c] [v] := by simp only [C.repl]; exact ⟨v, [], rfl, h, rfl⟩
set_option maxRecDepth 100000 in
theorem opn_Tm : ∀ (n fuel : Nat) (cs : List Value) (x : DataW H × List MemPlace), fuel ≤ n → DataW.trod enc Try.prog w base spare held fuel 27 cs = some x → ∃ t : Tm, C.repl [] [] w (teC t) cs ∧ t.fits := by
  intro n
  induction n with
  | zero =>
    intro fuel cs x hf h
    obtain rfl : fuel = 0 := by omega
    simp [DataW.trod] at h
  | succ n ih =>
    intro fuel cs x hf h
    obtain ⟨xs, m, hm, hx, hl, hlen, hfs⟩ := DataW.trod_struct Try.underlying27 h
    have hc : Try.prog.cellsOf 27 = 9 := by kernel_rfl
    have hc1 : Try.prog.cellsOf 3 = 1 := by kernel_rfl
    have hc2 : Try.prog.cellsOf 24 = 2 := by kernel_rfl
    have hc3 : Try.prog.cellsOf 9 = 1 := by kernel_rfl
    have hc4 : Try.prog.cellsOf 25 = 1 := by kernel_rfl
    rw [hc] at hl
    match cs, hl with
    | [c0, c1, c2, c3, c4, c5, c6, c7, c8], _ =>
      have f0 : DataW.trod enc Try.prog w base spare held m 3 (([c0, c1, c2, c3, c4, c5, c6, c7, c8].drop 0).take (Try.prog.cellsOf 3)) = xs[0]? := hfs 0 _ rfl
      have f1 : DataW.trod enc Try.prog w base spare held m 9 (([c0, c1, c2, c3, c4, c5, c6, c7, c8].drop 1).take (Try.prog.cellsOf 9)) = xs[1]? := hfs 1 _ rfl
      have f2 : DataW.trod enc Try.prog w base spare held m 3 (([c0, c1, c2, c3, c4, c5, c6, c7, c8].drop 2).take (Try.prog.cellsOf 3)) = xs[2]? := hfs 2 _ rfl
      have f3 : DataW.trod enc Try.prog w base spare held m 24 (([c0, c1, c2, c3, c4, c5, c6, c7, c8].drop 3).take (Try.prog.cellsOf 24)) = xs[3]? := hfs 3 _ rfl
      have f4 : DataW.trod enc Try.prog w base spare held m 24 (([c0, c1, c2, c3, c4, c5, c6, c7, c8].drop 5).take (Try.prog.cellsOf 24)) = xs[4]? := hfs 4 _ rfl
      have f5 : DataW.trod enc Try.prog w base spare held m 3 (([c0, c1, c2, c3, c4, c5, c6, c7, c8].drop 7).take (Try.prog.cellsOf 3)) = xs[5]? := hfs 5 _ rfl
      have f6 : DataW.trod enc Try.prog w base spare held m 25 (([c0, c1, c2, c3, c4, c5, c6, c7, c8].drop 8).take (Try.prog.cellsOf 25)) = xs[6]? := hfs 6 _ rfl
      rw [hc1] at f0 f2 f5
      rw [hc2] at f3 f4
      rw [hc3] at f1
      rw [hc4] at f6
      simp at hlen
      rw [List.getElem?_eq_getElem (by omega)] at f0 f1 f2 f3 f4 f5 f6
      simp at f0 f1 f2 f3 f4 f5 f6
      obtain ⟨k0, e0, _, _⟩ := DataW.trod_int Try.underlying3 f0
      obtain ⟨k2, e2, _, _⟩ := DataW.trod_int Try.underlying3 f2
      obtain ⟨k5, e5, _, _⟩ := DataW.trod_int Try.underlying3 f5
      obtain ⟨s, e1, _, hns⟩ := DataW.trod_string Try.underlying9 f1
      obtain ⟨t3, r3, ft3⟩ := opn_Ty m m _ _ (Nat.le_refl _) f3
      obtain ⟨t4, r4, ft4⟩ := opn_Ty m m _ _ (Nat.le_refl _) f4
      simp at e0 e1 e2 e5
      subst e0 e1 e2 e5
      rw [tyC_eq] at r3 r4
      simp only [C.repl] at r3 r4
      obtain ⟨u3, us3, g3, a3, u4, us4, g4, a4, g5⟩ := r3
      obtain ⟨u5, us5, g6, a5, u6, us6, g7, a6, g8⟩ := r4
      subst g5; subst g4; simp at g3; obtain ⟨rfl, rfl⟩ := g3
      subst g8; subst g7; simp at g6; obtain ⟨rfl, rfl⟩ := g6
      rcases DataW.trod_slice Try.underlying25 f6 with ⟨e1, _⟩ | ⟨a, len, cap, elems, rest, m', hm', e1, _, hb, hlc, hcm, hel, hall, _, _⟩
      · simp at e1
        subst e1
        refine ⟨.mk k0 s k2 t3 t4 k5 [], ?_, ⟨by simp only [maxLen] at hns; omega, ft3, ft4, by simp, trivial⟩⟩
        simp only [teC, teR, C.repl]
        exact ⟨_, _, rfl, ⟨rfl, rfl⟩, _, _, rfl, ⟨rfl, rfl⟩, _, _, rfl, ⟨rfl, rfl⟩, _, _, rfl, a3, _, _, rfl, a4, _, _, rfl, a5, _, _, rfl, a6, _, _, rfl, ⟨rfl, rfl⟩, _, _, rfl, rep_nil.2 (by simp [maxLen]), rfl⟩
      · simp at e1
        subst e1
        have hkid : ∀ i, i < len → ∃ t : Tm, (∃ ds, w.cells? base (a.add (i * 9)) 9 = some ds ∧ C.repl [] [] w (teC t) ds) ∧ t.fits := by
          intro i hi
          have h1 := hall i hi
          rw [hc, List.getElem?_eq_getElem (by omega)] at h1
          cases h2 : w.cells? base (a.add (i * 9)) 9 with
          | none => rw [h2] at h1; simp at h1
          | some ds =>
            rw [h2] at h1
            simp only [Option.bind_some] at h1
            obtain ⟨t, hr, hf⟩ := ih m' ds _ (by omega) h1
            exact ⟨t, ⟨ds, rfl, hr⟩, hf⟩
        obtain ⟨l, hl, hp⟩ := listAll hkid
        subst hl
        refine ⟨.mk k0 s k2 t3 t4 k5 l, ?_, ⟨by simp only [maxLen] at hns; omega, ft3, ft4, by simp only [maxLen] at hcm; omega, Tm.fitss_of fun i hi => (hp i hi).2⟩⟩
        simp only [teC, C.repl]
        refine ⟨_, _, rfl, ⟨rfl, rfl⟩, _, _, rfl, ⟨rfl, rfl⟩, _, _, rfl, ⟨rfl, rfl⟩, _, _, rfl, a3, _, _, rfl, a4, _, _, rfl, a5, _, _, rfl, a6, _, _, rfl, ⟨rfl, rfl⟩, _, _, rfl, ?_, rfl⟩
        rw [teR_map]
        exact sl_rep teC (by omega) teC_length l (fun i hi => (hp i hi).1) hlc hcm
set_option maxRecDepth 100000 in
theorem open_TmS {v : Value} {d : DataW H} {p : List MemPlace} {r : Reach} {b0 : Nat} (hv : Value.okWide Try.prog w r b0 27 v) (h : DataW.Trod enc Try.prog w base spare held 27 v d p) : ∃ t : Tm, AV.rep [] [] w (.agg (teC t)) v ∧ t.fits := by
  obtain ⟨cs, rfl, _⟩ := okWide_struct Try.underlying27 hv
  obtain ⟨fuel, hu⟩ := h
  obtain ⟨t, hr, hf⟩ := opn_Tm fuel fuel _ _ (Nat.le_refl _) hu
  refine ⟨t, ?_, hf⟩
  simp only [AV.rep]
  exact ⟨cs, rfl, hr⟩
end Go.Proofs.Ytchcbfbnffhifaa
