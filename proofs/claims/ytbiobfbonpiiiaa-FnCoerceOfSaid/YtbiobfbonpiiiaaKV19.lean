/- Texts of the proof, one behind another. -/
import Derived.Test.YtbiobfbonpiiiaaKV8
import Derived.Test.YtbiobfbonpiiiaaKV14
import Derived.Test.YtbiobfbonpiiiaaKV15
import Derived.Test.YtbiobfbonpiiiaaKV16
import Derived.Test.YtbiobfbonpiiiaaKV18
set_option linter.unusedSimpArgs false
set_option linter.unusedVariables false
/- A region that draws its order and reads a block that it makes: that load stands in line with what writes. On shadows. -/
namespace Go.Proofs.Sh
open Go.RowKit
def isLd (L : Nat) (o : Oper) : Bool := readOp o && (match o.dst with | some d => d == L | none => false)
def loudL (L : Nat) (o : Oper) : Bool := loudOp o || isLd L o
def readL (L : Nat) (o : Oper) : Bool := readOp o && !isLd L o
mutual
def lrun (P : Program) (c : MC) (L : Nat) : MT → List Nat × List Nat → Bool → ASt → TOut
  | .nil, _, _, s => .done s
  | .op i fin l, U, ok, s => match c.all[i]? with
    | some o => lwant P c L (wantedA c.all s.t o.guard) o fin l U ok s
    | none => .bad
  | .fork i fin t u, U, ok, s => .fork i fin t u U ok s
termination_by l => (l.size, 0)
def lwant (P : Program) (c : MC) (L : Nat) (w : Option Bool) (o : Oper) (fin : Bool) (l : MT) (U : List Nat × List Nat) (ok : Bool) (s : ASt) : TOut :=
  match w with
  | some true => lkind P c L (readL L o) (loudL L o) o fin l U ok s
  | _ => .bad
termination_by (l.size, 3)
def lkind (P : Program) (c : MC) (L : Nat) (rd ld : Bool) (o : Oper) (fin : Bool) (l : MT) (U : List Nat × List Nat) (ok : Bool) (s : ASt) : TOut :=
  match rd, ld with
  | true, _ => match o.op with
    | .load t x => if stabX U.1 x then (match s.eval x with | some (.one p) => if offMs c.ms p then lload P c L (aload P c.h0 t p) o fin l U ok s else .bad | _ => .bad) else .bad
    | _ => .bad
  | false, true => lloud P c L (aop P s o) o fin l U ok s
  | false, false => lfree P c L (aop P s o) o fin l U ok s
termination_by (l.size, 2)
def lload (P : Program) (c : MC) (L : Nat) (v : Option AV) (o : Oper) (fin : Bool) (l : MT) (U : List Nat × List Nat) (ok : Bool) (s : ASt) : TOut :=
  match v with
  | some v => lrun P c L l U ok (s.put o.dst v)
  | none => .bad
termination_by (l.size, 1)
def lloud (P : Program) (c : MC) (L : Nat) (r : Res) (o : Oper) (fin : Bool) (l : MT) (U : List Nat × List Nat) (ok : Bool) (s : ASt) : TOut :=
  match r with
  | .val v h => match readOp o with
    | true => if ok || fin then lrun P c L l (addU o.dst U.1, U.2) ok (s.put o.dst v) else .bad
    | false => if (ok && isNew o) || fin then lrun P c L l (addU o.dst U.1, U.2) (ok && isNew o) (ASt.put ⟨s.n, s.t, h⟩ o.dst v) else .bad
  | .skip h => if (ok && newSt c U.2 s o) || fin then lrun P c L l U (ok && newSt c U.2 s o) (ASt.put ⟨s.n, s.t, h⟩ o.dst aundef) else .bad
  | _ => .bad
termination_by (l.size, 1)
def lfree (P : Program) (c : MC) (L : Nat) (r : Res) (o : Oper) (fin : Bool) (l : MT) (U : List Nat × List Nat) (ok : Bool) (s : ASt) : TOut :=
  match r with
  | .val v _ => lrun P c L l (if stab U.1 o then U else (addU o.dst U.1, U.2)) ok (s.put o.dst v)
  | _ => .bad
termination_by (l.size, 1)
end
def LTree (P : Program) (N : Nat) (c : MC) (L : Nat) (l : MT) (U : List Nat × List Nat) (ok : Bool) (s : ASt) (K : Exit → ASt → Prop) : Prop :=
  ∀ X μ0 w0 μ a w μs hs ws, MixF X μ0 c.h0 w0 c.ms U.1 ok μ s a w → (∀ b ∈ U.2, ∃ g, μ[b]? = some g ∧ w0.heap.size ≤ g) → StpN N μs hs ws μ0 c.h0 w0 → wpMT P c.all.toArray (Keep (mapK μ0 c.ms) w0) (loudL L) (readL L) (lift N X μs hs ws K) l a w
def LDis (P : Program) (N : Nat) (c : MC) (L : Nat) (K : Exit → ASt → Prop) : TOut → Prop
  | .done s => K .normal s
  | .fork i fin t u U ok s => LTree P N c L (.op i fin t) U ok s K ∧ LTree P N c L u U ok s K
  | _ => False
section
variable {P : Program} {N : Nat} {c : MC} {K : Exit → ASt → Prop} {X μ0 μ : List Nat} {h0 : List Blk} {w0 w : World} {ms U : List Nat} {ok : Bool} {s : ASt} {a : Act} {L : Nat}
theorem load_here {o : Oper} {v : AV} {h' : List Blk} (hF : SimF X μ s a w) (hr : readOp o = true) (ho : aop P s o = .val v h') : ∃ u, (execOp a.eval o).run P w = .ok (.value u) w ∧ AV.rep (X ++ alive μ s.h) μ w v u := by
  cases hop : o.op with
  | load t x =>
    unfold aop at ho
    rw [hop] at ho
    simp only at ho
    split at ho
    · rename_i p hp
      unfold ares at ho
      split at ho
      · rename_i v' hv
        injection ho with e1 e2
        subst e1
        obtain ⟨g, u, h1, h2, h3, h4⟩ := op_load (P := P) hop hF hp hv
        exact ⟨u, h3 w rfl, h4⟩
      · cases ho
    · cases ho
  | _ => simp [readOp, hop] at hr
theorem lrun_sound (hmut : ∀ b ∈ c.ms, ∃ k, c.h0[b]? = some k ∧ k.st.isMut = true) : ∀ (l : MT) (U : List Nat × List Nat) (ok : Bool) (s : ASt), LDis P N c L K (lrun P c L l U ok s) → LTree P N c L l U ok s K := by
  intro l
  induction l with
  | nil =>
    intro U ok s h X μ0 w0 μ a w μs hs ws hM hN hT
    rw [lrun] at h
    unfold wpMT
    exact ⟨s, μ, h, hM.cur, hT.trans hM.stp⟩
  | fork i fin t u iht ihu =>
    intro U ok s h X μ0 w0 μ a w μs hs ws hM hN hT
    rw [lrun] at h
    exact ⟨h.1 X μ0 w0 μ a w μs hs ws hM hN hT, h.2 X μ0 w0 μ a w μs hs ws hM hN hT⟩
  | op i fin l ih =>
    intro U ok s h X μ0 w0 μ a w μs hs ws hM hN hT
    rw [lrun] at h
    cases hoi : c.all[i]? with
    | none => rw [hoi] at h; exact h.elim
    | some o =>
    rw [hoi] at h
    simp only at h
    cases hw : wantedA c.all s.t o.guard with
    | none => rw [hw, lwant] at h; exact h.elim; all_goals simp
    | some b =>
      have hwt := wanted_spec hM.cur hw
      unfold wpMT stepT
      have hoa : c.all.toArray[i]? = some o := by simpa using hoi
      rw [hoa]
      simp only
      rw [hwt]
      cases b with
      | false => rw [hw, lwant] at h; exact h.elim; all_goals simp
      | true =>
        rw [hw, lwant] at h
        rw [if_pos rfl]
        cases hrd : readL L o with
        | true =>
          have hrd0 : readOp o = true := by simp only [readL, Bool.and_eq_true] at hrd; exact hrd.1
          have hld : loudL L o = false := by
            have hl0 : loudOp o = false := by
              cases ho : o.op <;> simp [readOp, ho] at hrd0
              simp [loudOp, ho]
            simp only [readL, Bool.and_eq_true, Bool.not_eq_true'] at hrd
            simp only [loudL, hl0, hrd.2, Bool.or_self]
          rw [hrd, lkind] at h
          rw [hld, if_neg (by simp)]
          split at h
          · rename_i t x ho
            split at h
            · rename_i hx
              split at h
              · rename_i p hp
                split at h
                · rename_i hms
                  cases hv : aload P c.h0 t p with
                  | none => rw [hv, lload] at h; exact h.elim
                  | some v =>
                    rw [hv, lload] at h
                    obtain ⟨u, h1, h2⟩ := mix_load (M := []) hM ho hx hp hms hmut hv
                    exact ⟨u, by simpa [Calm, Cls, hrd] using h1, ih U ok _ h X μ0 w0 μ _ w μs hs ws (hM.put h2) hN hT⟩
                · exact h.elim
              · exact h.elim
            · exact h.elim
          · exact h.elim
        | false =>
          cases hld : loudL L o with
          | false =>
            rw [hrd, hld, lkind] at h
            rw [if_neg (by simp)]
            have hl0 : loudOp o = false := by simp only [loudL, Bool.or_eq_false_iff] at hld; exact hld.1
            have hr0 : readOp o = false := by
              simp only [loudL, Bool.or_eq_false_iff] at hld
              simpa only [readL, hld.2, Bool.not_false, Bool.and_true] using hrd
            cases ho : aop P s o with
            | val v h' =>
              rw [ho, lfree] at h
              obtain ⟨rfl, hp⟩ := aop_pure hl0 hr0 ho
              obtain ⟨u, h1, h2⟩ := hp X μ s a w hM.cur (fun _ _ => rfl)
              refine ⟨u, fun w _ => h1 w, ?_⟩
              by_cases hst : stab U.1 o = true
              · rw [if_pos hst] at h
                obtain ⟨u', h1', h2'⟩ := hp X μ0 ⟨s.n, still U.1 s.t, c.h0⟩ a w0 hM.still (fun x hx => still_eval (List.all_eq_true.1 hst x hx))
                have : u' = u := by
                  have e1 := h1 w; rw [h1' w] at e1; injection e1 with e1; injection e1
                subst this
                exact ih U ok _ h X μ0 w0 μ _ w μs hs ws (hM.put h2') hN hT
              · rw [if_neg hst] at h
                have := hM.putU (ok' := ok) (d := o.dst) hM.cur.sim (Stp.refl _ _ _) h2 hM.keep
                exact ih _ ok _ h X μ0 w0 μ _ w μs hs ws this hN hT
            | skip h' => rw [ho, lfree] at h; exact h.elim; all_goals simp
            | call f args => rw [ho, lfree] at h; exact h.elim; all_goals simp
            | bad => rw [ho, lfree] at h; exact h.elim; all_goals simp
          | true =>
            rw [hrd, hld, lkind] at h
            rw [if_pos rfl]
            cases ho : aop P s o with
            | bad => rw [ho, lloud] at h; exact h.elim; all_goals simp
            | call f args => rw [ho, lloud] at h; exact h.elim; all_goals simp
            | skip h' =>
              rw [ho, lloud] at h
              split at h
              · rename_i hf
                obtain ⟨w', r1, ⟨r2, r3⟩, r4⟩ := aop_skip' hM.cur ho
                unfold Oper.wp
                rw [r1]
                cases hnew : (ok && newSt c U.2 s o) with
                | false =>
                  rw [hnew] at hf h
                  exact ⟨.inl (by simpa using hf), ih U false _ h X μ0 w0 μ _ w' μs hs ws (hM.drop r2 r3 (by simp)) hN hT⟩
                | true =>
                  rw [hnew] at h
                  simp only [Bool.and_eq_true] at hnew
                  obtain ⟨hok, hnw⟩ := hnew
                  have hK : Keep (mapK μ0 c.ms) w0 w' := by
                    unfold newSt at hnw
                    split at hnw
                    · rename_i t x y hop
                      split at hnw
                      · rename_i n b i' j' hx
                        simp only [Bool.or_eq_true, List.contains_eq_mem, decide_eq_true_eq] at hnw
                        rcases hnw with hbm | hbn
                        · obtain ⟨k, e1, e2⟩ := hmut b hbm
                          obtain ⟨g', hg', _⟩ := hM.base.get e1
                          refine (hM.keep hok).trans (r4 _ _ _ n b i' j' g' hop hx (hM.stp.map b g' hg')) (fun z hz _ => ?_)
                          simp only [List.mem_singleton] at hz
                          subst hz
                          refine List.mem_map.2 ⟨b, hbm, ?_⟩
                          rw [List.getD_eq_getElem?_getD, hg', Option.getD_some]
                        · obtain ⟨g', hg', hle⟩ := hN b hbn
                          refine (hM.keep hok).trans (r4 _ _ _ n b i' j' g' hop hx hg') (fun z hz hlt => ?_)
                          simp only [List.mem_singleton] at hz
                          omega
                      · cases hnw
                    · cases hnw
                  exact ⟨.inr hK, ih U true _ h X μ0 w0 μ _ w' μs hs ws (hM.drop r2 r3 (fun _ => hK)) hN hT⟩
              · exact h.elim
            | val v h' =>
              rw [ho, lloud] at h
              cases hr0 : readOp o with
              | true =>
                rw [hr0] at h
                simp only at h
                split at h
                · rename_i hf
                  obtain ⟨u, r1, r2⟩ := load_here hM.cur hr0 ho
                  unfold Oper.wp
                  rw [r1]
                  refine ⟨?_, ih _ ok _ h X μ0 w0 μ _ w μs hs ws (hM.putU hM.cur.sim (Stp.refl _ _ _) r2 hM.keep) hN hT⟩
                  cases hok : ok with
                  | true => exact .inr (hM.keep hok)
                  | false => rw [hok] at hf; exact .inl (by simpa using hf)
                · exact h.elim
              | false =>
                rw [hr0] at h
                simp only at h
                split at h
                · rename_i hf
                  cases hn : isNew o with
                  | false =>
                    rw [hn] at hf h
                    simp only [Bool.and_false, Bool.false_or] at hf h
                    obtain ⟨u, w', μ', r1, r2, r3, r4⟩ := aop_val hM.cur ho
                    unfold Oper.wp
                    rw [r1]
                    exact ⟨.inl hf, ih _ false _ h X μ0 w0 μ' _ w' μs hs ws (hM.putU r2 r3 r4 (by simp)) (hN' hN r3) hT⟩
                  | true =>
                    rw [hn] at hf h
                    simp only [Bool.and_true] at hf h
                    obtain ⟨u, w', μ', r1, r2, r3, r4, ⟨L', r5, r6⟩, r7⟩ := loud_new (F := U.2) hM.cur (by rw [hn]; rfl) ho hN hM.stp.keep.size
                    have hK : ok = true → Keep (mapK μ0 c.ms) w0 w' := fun hok => (hM.keep hok).trans r5 (fun z hz hlt => by have := r6 z hz; omega)
                    unfold Oper.wp
                    rw [r1]
                    refine ⟨?_, ih _ ok _ h X μ0 w0 μ' _ w' μs hs ws (hM.putU r2 r3 r4 hK) (hN' hN r3) hT⟩
                    cases hok : ok with
                    | true => exact .inr (hK hok)
                    | false => rw [hok] at hf; exact .inl (by simpa using hf)
                · exact h.elim
theorem lrun_sound' (hmut : c.ms.all (fun b => match c.h0[b]? with | some k => k.st.isMut | none => false) = true) (l : MT) (U : List Nat × List Nat) (ok : Bool) (s : ASt) (h : LDis P N c L K (lrun P c L l U ok s)) : LTree P N c L l U ok s K :=
  lrun_sound (fun b hb => by
    have := List.all_eq_true.1 hmut b hb
    split at this
    · rename_i k hk; exact ⟨k, hk, this⟩
    · cases this) l U ok s h
structure WLd (P : Program) (N : Nat) (c : MC) (L : Nat) (R : ASt → Prop) (k : List Item) (o : TOut) : Prop where
  out : LDis P N c L (AGo P N R k) o
theorem go_ld {R : ASt → Prop} {id : Nat} {l : List Oper} {k : List Item} (T : MT) (ms : List Nat) (L : Nat) (hm : P.follows .mixedOrders = true) (hB : treeOK (loudL L) (readL L) l.toArray T = true) (hmut : ms.all (fun b => match s.h[b]? with | some k => k.st.isMut | none => false) = true)
    (h : LDis P N ⟨0, s.h, ms, l⟩ L (AGo P N R k) (lrun P ⟨0, s.h, ms, l⟩ L T ([], []) true s)) : AGo P N R (.code (.region id l.toArray true) :: k) .normal s := by
  intro X μ0 hh0 w0 μ a w hF hT
  have hdr : Stp μ s.h w μ s.h w.drew := ⟨Keep.drew _ _, fun _ _ e => e, fun _ h _ => h⟩
  have hSd : Sim X μ s.h w.drew := by
    have hs := hF.sim
    exact ⟨hs.len, hs.lt, hs.xlt, hs.out, hs.inj, fun i b g h1 h2 h3 => let ⟨cur, q1, q2⟩ := hs.blk i b g h1 h2 h3; ⟨cur, q1, q2.carry hdr.carry⟩⟩
  have hFd : SimF X μ s a w.drew := hF.step hdr hSd
  have hA := lrun_sound' (c := ⟨0, s.h, ms, l⟩) hmut T ([], []) true s h X μ w.drew μ a w.drew μ0 hh0 w0 ⟨hFd, Stp.refl _ _ _, hSd, fun t v _ hl => hFd.reg t v hl, fun _ => Keep.refl _ _⟩ (fun _ hb => by simp at hb) (hT.trans hdr)
  exact wp_region_tree (C := Keep (mapK μ ms) w.drew) T hm hB (Keep.refl _ _) hA
theorem wd_ld {R : ASt → Prop} {id : Nat} {l : List Oper} {k : List Item} (T : MT) (ms : List Nat) (L : Nat) (hm : P.follows .mixedOrders = true) (h : WLd P N ⟨0, s.h, ms, l⟩ L R k (lrun P ⟨0, s.h, ms, l⟩ L T ([], []) true s)) (hB : treeOK (loudL L) (readL L) l.toArray T = true := by decide +kernel) (hmut : ms.all (fun b => match s.h[b]? with | some k => k.st.isMut | none => false) = true := by simp only [go_sem]; first | done | rfl) : WD P N R (.drawn id l k s) :=
  ⟨go_ld T ms L hm hB hmut h.out⟩
theorem wl_fork {R : ASt → Prop} {k : List Item} {i : Nat} {fin : Bool} {t u : MT} {U : List Nat × List Nat} (h1 : WLd P N c L R k (lrun P c L (.op i fin t) U ok s)) (h2 : WLd P N c L R k (lrun P c L u U ok s)) (hmut : c.ms.all (fun b => match c.h0[b]? with | some k => k.st.isMut | none => false) = true := by simp only [go_sem]; first | done | rfl) : WLd P N c L R k (.fork i fin t u U ok s) :=
  ⟨⟨lrun_sound' hmut _ _ _ _ h1.out, lrun_sound' hmut _ _ _ _ h2.out⟩⟩
theorem wl_done {R : ASt → Prop} {k : List Item} (h : WD P N R (arun P 4000 k s)) : WLd P N c L R k (.done s) := ⟨arun_sound 4000 _ _ h.out⟩
end
attribute [go_sem] lrun lwant lkind lload lloud lfree loudL readL isLd
end Go.Proofs.Sh
/- The reference's draw of a cast. On shadows. -/
namespace Go.Proofs.Ytbiobfbonpiiiaa
open Go.RowKit Go.Proofs.Sh Go.Proofs.Grad
set_option maxRecDepth 100000
set_option maxHeartbeats 8000000
def PairL (r : AV) (H' : List Blk) : Prop := ∃ (x y : Ty) (n : Int), r = .tup [.agg (tyC x), .agg (tyC y), .one (.sc (.int .i64 n))] ∧ x.size ≤ 1000 ∧ y.size ≤ 1000 ∧ (-200 ≤ n ∧ n ≤ 200) ∧ H' = []
theorem dCoerceOf (l : List Int) (hl : Code8 l) : ACl Try.prog 39 [.one (.sl (byR l))] [] PairL := by
  have hd := dConsistent l hl
  have h6 : ((l.length : Nat) : Int).tmod 6 = 0 ∨ ((l.length : Nat) : Int).tmod 6 = 1 ∨ ((l.length : Nat) : Int).tmod 6 = 2 ∨ ((l.length : Nat) : Int).tmod 6 = 3 ∨ ((l.length : Nat) : Int).tmod 6 = 4 ∨ ((l.length : Nat) : Int).tmod 6 = 5 := by
    have := Int.tmod_lt_of_pos (l.length : Int) (b := 6) (by omega)
    have := Int.tmod_nonneg 6 (a := (l.length : Int)) (by omega)
    omega
  rcases h6 with h6 | h6 | h6 | h6 | h6 | h6
  all_goals
    refine acl_in Try.func39 rfl isfn_39 (Nat.le_of_ble_eq_true rfl) (fun R hR => ?_); rw [Try.results39] at hR; refine wg_run ?_; (simp only [Try.f39, go_sem, h6])
    ((first | refine kdq [] ?_ (hc := hd) | refine kmq [] ?_ (hc := hd) | refine ktq [] ?_ (hc := hd)); rintro _ _ ⟨x, y, rfl, hx, hy, rfl⟩ <;> (simp only [go_sem]))
    repeat' (first | (simp only [go_sem, h6]) | (((first | apply sp1 | apply sp2 | apply sp3 | apply sp4 | apply sp5 | apply sp6 | apply sp7) <;> intro hb) <;> (simp only [go_sem, hb, h6])) | ((first | apply wm_done | apply wt_done | apply wg_run | refine fk ?_ ?_) <;> (simp only [go_sem, h6])))
    refine wd_ld (.op 0 false (.op 1 false (.op 3 false (.op 4 false (.op 5 false (.fork 2 false (.op 6 false (.fork 7 false (.op 8 false (.op 9 false (.op 10 false .nil))) (.op 8 false (.fork 7 false (.op 9 false (.op 10 false .nil)) (.op 9 false (.op 7 false (.op 10 false .nil))))))) (.op 8 false (.fork 2 false (.op 6 false (.fork 7 false (.op 9 false (.op 10 false .nil)) (.op 9 false (.op 7 false (.op 10 false .nil))))) (.op 9 false (.op 2 false (.op 6 false (.op 7 false (.op 10 false .nil))))))))))))) [0, 1] 19 follows ?_
    repeat' (first | (simp only [go_sem, h6]) | refine wl_fork ?_ ?_ | refine wl_done ?_ | fail)
    all_goals exact hR _ (rat [] (hK := ⟨x, y, _, rfl, hx, hy, by omega, rfl⟩))
end Go.Proofs.Ytbiobfbonpiiiaa
/- Typing of coercions, in the program and in the reference. On shadows. -/
namespace Go.Proofs.Grad
theorem K.tag_range {c : K} (w : c.wf = true) (h1 : c.isPrj = false) (h2 : c.isAny = false) : 2 ≤ c.tag ∧ c.tag ≤ 5 := by
  rcases K.cases4 c with pc | rfl | ⟨c', rfl⟩ | ⟨l, c', rfl⟩ | ⟨l, g, rfl⟩
  · exact K.plain_tag pc w
  · cases h2
  · simp only [K.wf, Bool.and_eq_true] at w; simp only [K.tag]; exact K.plain_tag w.1 w.2
  · cases h1
  · simp only [K.wf, Bool.and_eq_true, decide_eq_true_eq] at w; simp only [K.tag]; omega
theorem gT_kind' {k : Int} (h : 2 ≤ k ∧ k ≤ 5) : (gT k).kind = k ∧ (gT k).ground = gT k := by
  obtain rfl | rfl | rfl | rfl : k = 2 ∨ k = 3 ∨ k = 4 ∨ k = 5 := by omega
  all_goals exact ⟨rfl, rfl⟩
/-- a type of a form, if it is one -/
noncomputable def Ty.t? (t : Ty) : Option T := if h : t.valid = true then some ((Ty.valid_iff t).1 h).choose else none
theorem Ty.t?_ty {x : T} (h : x.depth ≤ 4) : x.ty.t? = some x := by
  have hv : x.ty.valid = true := (Ty.valid_iff _).2 ⟨x, rfl, h⟩
  simp only [Ty.t?, hv, dite_true, Option.some.injEq]
  exact T.ty_inj _ _ ((Ty.valid_iff x.ty).1 hv).choose_spec.1
theorem Ty.t?_none {t : Ty} (h : t.valid = false) : t.t? = none := by simp [Ty.t?, h]
theorem Ty.t?_some {t : Ty} {x : T} (h : t.t? = some x) : t = x.ty ∧ x.depth ≤ 4 := by
  unfold Ty.t? at h
  split at h
  · rename_i hv
    simp only [Option.some.injEq] at h
    have := ((Ty.valid_iff t).1 hv).choose_spec
    rw [h] at this
    exact ⟨this.1.symm, this.2⟩
  · cases h
/-- typing of coercions as they come -/
noncomputable def Co.typedV (c : Co) (a b : Ty) : Bool := match c.k?, a.t?, b.t? with | some k, some x, some y => k.typed x y | _, _, _ => false
end Go.Proofs.Grad
namespace Go.Proofs.Ytbiobfbonpiiiaa
open Go.RowKit Go.Proofs.Sh Go.Proofs.Grad
set_option maxRecDepth 100000
set_option maxHeartbeats 8000000
theorem iGroundK {k : Int} (h : 2 ≤ k ∧ k ≤ 5) : AFn Try.prog 87 [.one (.sc (.int .i64 k))] (.agg (tyC (gT k).ty)) := by
  have := iGround (gT k)
  rwa [(gT_kind' h).1, (gT_kind' h).2] at this
theorem iLeads (c : K) : c.wf = true → ∀ a b : T, AFn Try.prog 59 [.agg (coC c.co), .agg (tyC a.ty), .agg (tyC b.ty)] (.one (.sc (.bool (c.typed a b)))) := by
  induction c with
  | id g =>
    intro wc a b
    rcases a with _ | _ | _ | ⟨a1, a2⟩ | ⟨a1, a2⟩ <;> rcases b with _ | _ | _ | ⟨b1, b2⟩ | ⟨b1, b2⟩
    all_goals
      refine fn_in ?_; refine acl_in Try.func59 rfl isfn_59 (Nat.le_of_ble_eq_true rfl) (fun R hR => ?_); rw [Try.results59] at hR; refine wg_run ?_; (simp only [Try.f59, go_sem])
      repeat' (first | (first | (((first | apply sp1 | apply sp2 | apply sp3 | apply sp4 | apply sp5 | apply sp6 | apply sp7) <;> intro hb) <;> (simp only [go_sem, hb])) | ((first | apply wm_done | apply wt_done | apply wg_run | refine fk ?_ ?_) <;> (simp only [go_sem]))) | ((first | refine mxq6 [] ?_ | refine mxq5 [] ?_ | refine mxq4 [] ?_ | refine mxq3 [] ?_ | refine mxq2 [] ?_ | refine mxq1 [] ?_ | refine mxq0 [] ?_ | fail); (simp only [go_sem])))
      all_goals (refine hR _ (rat [] (hK := ⟨?_, rfl⟩)))
      all_goals simp_all [K.typed, T.kind, T.ty_kind]
  | fail l g =>
    intro wc a b
    rcases a with _ | _ | _ | ⟨a1, a2⟩ | ⟨a1, a2⟩ <;> rcases b with _ | _ | _ | ⟨b1, b2⟩ | ⟨b1, b2⟩
    all_goals
      refine fn_in ?_; refine acl_in Try.func59 rfl isfn_59 (Nat.le_of_ble_eq_true rfl) (fun R hR => ?_); rw [Try.results59] at hR; refine wg_run ?_; (simp only [Try.f59, go_sem])
      repeat' (first | (first | (((first | apply sp1 | apply sp2 | apply sp3 | apply sp4 | apply sp5 | apply sp6 | apply sp7) <;> intro hb) <;> (simp only [go_sem, hb])) | ((first | apply wm_done | apply wt_done | apply wg_run | refine fk ?_ ?_) <;> (simp only [go_sem]))) | ((first | refine mxq6 [] ?_ | refine mxq5 [] ?_ | refine mxq4 [] ?_ | refine mxq3 [] ?_ | refine mxq2 [] ?_ | refine mxq1 [] ?_ | refine mxq0 [] ?_ | fail); (simp only [go_sem])))
      all_goals (refine hR _ (rat [] (hK := ⟨?_, rfl⟩)))
      all_goals simp_all [K.typed, T.kind, T.ty_kind]
  | fn c d ihc ihd =>
    intro wc a b
    simp only [K.wf, Bool.and_eq_true] at wc
    rcases a with _ | _ | _ | ⟨a1, a2⟩ | ⟨a1, a2⟩ <;> rcases b with _ | _ | _ | ⟨b1, b2⟩ | ⟨b1, b2⟩
    all_goals
      refine fn_in ?_; refine acl_in Try.func59 rfl isfn_59 (Nat.le_of_ble_eq_true rfl) (fun R hR => ?_); rw [Try.results59] at hR; refine wg_run ?_; (simp only [Try.f59, go_sem])
      repeat' (first | (first | (((first | apply sp1 | apply sp2 | apply sp3 | apply sp4 | apply sp5 | apply sp6 | apply sp7) <;> intro hb) <;> (simp only [go_sem, hb])) | ((first | apply wm_done | apply wt_done | apply wg_run | refine fk ?_ ?_) <;> (simp only [go_sem]))) | (first | refine cdq ?_ (hc := ihc wc.1 _ _) | refine cmq ?_ (hc := ihc wc.1 _ _) | refine ctq ?_ (hc := ihc wc.1 _ _)); (simp only [go_sem]) | (first | refine cdq ?_ (hc := ihd wc.2 _ _) | refine cmq ?_ (hc := ihd wc.2 _ _) | refine ctq ?_ (hc := ihd wc.2 _ _)); (simp only [go_sem]) | ((first | refine mxq6 [] ?_ | refine mxq5 [] ?_ | refine mxq4 [] ?_ | refine mxq3 [] ?_ | refine mxq2 [] ?_ | refine mxq1 [] ?_ | refine mxq0 [] ?_ | fail); (simp only [go_sem])))
      all_goals (refine hR _ (rat [] (hK := ⟨?_, rfl⟩)))
      all_goals simp_all [K.typed, T.kind, T.ty_kind]
  | pr c d ihc ihd =>
    intro wc a b
    simp only [K.wf, Bool.and_eq_true] at wc
    rcases a with _ | _ | _ | ⟨a1, a2⟩ | ⟨a1, a2⟩ <;> rcases b with _ | _ | _ | ⟨b1, b2⟩ | ⟨b1, b2⟩
    all_goals
      refine fn_in ?_; refine acl_in Try.func59 rfl isfn_59 (Nat.le_of_ble_eq_true rfl) (fun R hR => ?_); rw [Try.results59] at hR; refine wg_run ?_; (simp only [Try.f59, go_sem])
      repeat' (first | (first | (((first | apply sp1 | apply sp2 | apply sp3 | apply sp4 | apply sp5 | apply sp6 | apply sp7) <;> intro hb) <;> (simp only [go_sem, hb])) | ((first | apply wm_done | apply wt_done | apply wg_run | refine fk ?_ ?_) <;> (simp only [go_sem]))) | (first | refine cdq ?_ (hc := ihc wc.1 _ _) | refine cmq ?_ (hc := ihc wc.1 _ _) | refine ctq ?_ (hc := ihc wc.1 _ _)); (simp only [go_sem]) | (first | refine cdq ?_ (hc := ihd wc.2 _ _) | refine cmq ?_ (hc := ihd wc.2 _ _) | refine ctq ?_ (hc := ihd wc.2 _ _)); (simp only [go_sem]) | ((first | refine mxq6 [] ?_ | refine mxq5 [] ?_ | refine mxq4 [] ?_ | refine mxq3 [] ?_ | refine mxq2 [] ?_ | refine mxq1 [] ?_ | refine mxq0 [] ?_ | fail); (simp only [go_sem])))
      all_goals (refine hR _ (rat [] (hK := ⟨?_, rfl⟩)))
      all_goals simp_all [K.typed, T.kind, T.ty_kind]
  | inj c ih =>
    intro wc a b
    simp only [K.wf, Bool.and_eq_true] at wc
    have ht := coTag (.inj c)
    simp only [K.tag] at ht
    have hg := iGround a
    have hi := ih wc.2 a a.ground
    rcases a with _ | _ | _ | ⟨a1, a2⟩ | ⟨a1, a2⟩ <;> rcases b with _ | _ | _ | ⟨b1, b2⟩ | ⟨b1, b2⟩
    all_goals simp only [T.kind] at hg
    all_goals
      refine fn_in ?_; refine acl_in Try.func59 rfl isfn_59 (Nat.le_of_ble_eq_true rfl) (fun R hR => ?_); rw [Try.results59] at hR; refine wg_run ?_; (simp only [Try.f59, go_sem])
      repeat' (first | (first | (((first | apply sp1 | apply sp2 | apply sp3 | apply sp4 | apply sp5 | apply sp6 | apply sp7) <;> intro hb) <;> (simp only [go_sem, hb])) | ((first | apply wm_done | apply wt_done | apply wg_run | refine fk ?_ ?_) <;> (simp only [go_sem]))) | (first | refine cdq ?_ (hc := ht) | refine cmq ?_ (hc := ht) | refine ctq ?_ (hc := ht)); (simp only [go_sem]) | (first | refine cdq ?_ (hc := hg) | refine cmq ?_ (hc := hg) | refine ctq ?_ (hc := hg)); (simp only [go_sem]) | (first | refine cdq ?_ (hc := hi) | refine cmq ?_ (hc := hi) | refine ctq ?_ (hc := hi)); (simp only [go_sem]) | ((first | refine mxq6 [] ?_ | refine mxq5 [] ?_ | refine mxq4 [] ?_ | refine mxq3 [] ?_ | refine mxq2 [] ?_ | refine mxq1 [] ?_ | refine mxq0 [] ?_ | fail); (simp only [go_sem])))
      all_goals (refine hR _ (rat [] (hK := ⟨?_, rfl⟩)))
      all_goals simp_all [K.typed, T.kind, T.ground, T.ty_kind]
  | prj l c ih =>
    intro wc a b
    simp only [K.wf, Bool.and_eq_true, Bool.not_eq_true'] at wc
    have ht := coTag c
    have hr := K.tag_range wc.2 wc.1.1.2 wc.1.2
    have hg := iGroundK hr
    have hi := ih wc.2 (gT c.tag) b
    cases a
    all_goals
      refine fn_in ?_; refine acl_in Try.func59 rfl isfn_59 (Nat.le_of_ble_eq_true rfl) (fun R hR => ?_); rw [Try.results59] at hR; refine wg_run ?_; (simp only [Try.f59, go_sem])
      repeat' (first | (first | (((first | apply sp1 | apply sp2 | apply sp3 | apply sp4 | apply sp5 | apply sp6 | apply sp7) <;> intro hb) <;> (simp only [go_sem, hb])) | ((first | apply wm_done | apply wt_done | apply wg_run | refine fk ?_ ?_) <;> (simp only [go_sem]))) | (first | refine cdq ?_ (hc := ht) | refine cmq ?_ (hc := ht) | refine ctq ?_ (hc := ht)); (simp only [go_sem]) | (first | refine cdq ?_ (hc := hg) | refine cmq ?_ (hc := hg) | refine ctq ?_ (hc := hg)); (simp only [go_sem]) | (first | refine cdq ?_ (hc := hi) | refine cmq ?_ (hc := hi) | refine ctq ?_ (hc := hi)); (simp only [go_sem]) | ((first | refine mxq6 [] ?_ | refine mxq5 [] ?_ | refine mxq4 [] ?_ | refine mxq3 [] ?_ | refine mxq2 [] ?_ | refine mxq1 [] ?_ | refine mxq0 [] ?_ | fail); (simp only [go_sem])))
      all_goals (refine hR _ (rat [] (hK := ⟨?_, rfl⟩)))
      all_goals simp_all [K.typed, T.kind, T.ground, T.ty_kind]
end Go.Proofs.Ytbiobfbonpiiiaa
/- Types: consistency in the reference, on shadows. -/
namespace Go.Proofs.Ytbiobfbonpiiiaa
open Go.RowKit Go.Proofs.Sh Go.Proofs.Grad
set_option maxRecDepth 100000
set_option maxHeartbeats 4000000
theorem l1Cons (n : Nat) : ∀ a b : T, a.size < n → AFn Try.prog 88 [.agg (tyC a.ty), .agg (tyC b.ty)] (.one (.sc (.bool (a.cons b)))) := by
  induction n with
  | zero => intro a b h; omega
  | succ n ih =>
    intro a b h
    rcases a with _ | _ | _ | ⟨a1, a2⟩ | ⟨a1, a2⟩ <;> rcases b with _ | _ | _ | ⟨b1, b2⟩ | ⟨b1, b2⟩
    all_goals simp only [T.size] at h
    all_goals
      refine fn_in ?_; refine acl_in Try.func88 rfl isfn_88 (Nat.le_of_ble_eq_true rfl) (fun R hR => ?_); rw [Try.results88] at hR; refine wg_run ?_; (simp only [Try.f88, go_sem])
      repeat' (first | (first | (((first | apply sp1 | apply sp2 | apply sp3 | apply sp4 | apply sp5 | apply sp6 | apply sp7) <;> intro hb) <;> (simp only [go_sem, hb])) | ((first | apply wm_done | apply wt_done | apply wg_run | refine fk ?_ ?_) <;> (simp only [go_sem]))) | (first | (refine wl_next (wg_run ?_); (simp only [go_sem])) | refine wd_rounds 6 ?_) | (first | refine cdq ?_ (hc := ih _ _ (by omega)) | refine cmq ?_ (hc := ih _ _ (by omega)) | refine ctq ?_ (hc := ih _ _ (by omega))); (simp only [go_sem]) | ((first | refine mxq6 [] ?_ | refine mxq5 [] ?_ | refine mxq4 [] ?_ | refine mxq3 [] ?_ | refine mxq2 [] ?_ | refine mxq1 [] ?_ | refine mxq0 [] ?_ | fail); (simp only [go_sem])))
      all_goals (refine hR _ (rat [] (hK := ⟨?_, rfl⟩)))
      all_goals simp_all [T.cons]
end Go.Proofs.Ytbiobfbonpiiiaa
/- Casts as coercions, behind their checks; draws of arguments of typing. On shadows. -/
namespace Go.Proofs.Grad
/-- the coercion of a cast between types as they come -/
noncomputable def Ty.castV (a b : Ty) (l : Int) : Option K := match a.t?, b.t? with | some x, some y => if (x.cons y && lab l) = true then some (T.cast x y l) else none | _, _ => none
theorem Ty.castV_some {a b : Ty} {l : Int} {k : K} (h : a.castV b l = some k) : ∃ x y : T, a = x.ty ∧ b = y.ty ∧ x.depth ≤ 4 ∧ y.depth ≤ 4 ∧ x.cons y = true ∧ lab l = true ∧ k = T.cast x y l := by
  unfold Ty.castV at h
  cases ea : a.t? with
  | none => rw [ea] at h; cases h
  | some x =>
    cases eb : b.t? with
    | none => rw [ea, eb] at h; cases h
    | some y =>
      rw [ea, eb] at h
      simp only [] at h
      split at h
      · rename_i hc
        simp only [Bool.and_eq_true] at hc
        simp only [Option.some.injEq] at h
        exact ⟨x, y, (Ty.t?_some ea).1, (Ty.t?_some eb).1, (Ty.t?_some ea).2, (Ty.t?_some eb).2, hc.1, hc.2, h.symm⟩
      · cases h
end Go.Proofs.Grad
namespace Go.Proofs.Ytbiobfbonpiiiaa
open Go.RowKit Go.Proofs.Sh Go.Proofs.Grad
set_option maxRecDepth 100000
set_option maxHeartbeats 8000000
theorem onT_cons (a b : Ty) : onT T.cons a b = match a.t?, b.t? with | some x, some y => x.cons y | _, _ => false := by
  cases ea : a.valid with
  | false => rw [onT_off _ (by simp [ea]), Ty.t?_none ea]
  | true =>
    obtain ⟨x, rfl, hx⟩ := (Ty.valid_iff a).1 ea
    cases eb : b.valid with
    | false => rw [onT_off _ (by simp [eb]), Ty.t?_none eb]; cases x.ty.t? <;> rfl
    | true =>
      obtain ⟨y, rfl, hy⟩ := (Ty.valid_iff b).1 eb
      rw [onT_ty _ hx hy, Ty.t?_ty hx, Ty.t?_ty hy]
theorem sConsistent (a b : Ty) : AFn Try.prog 52 [.agg (tyC a), .agg (tyC b)] (.one (.sc (.bool (onT T.cons a b)))) := by
  have va := sValid a
  have vb := sValid b
  cases ea : a.valid with
  | false =>
    rw [onT_off _ (by simp [ea])]
    rw [ea] at va
    refine fn_in ?_; refine acl_in Try.func52 rfl isfn_52 (Nat.le_of_ble_eq_true rfl) (fun R hR => ?_); rw [Try.results52] at hR; refine wg_run ?_; (simp only [Try.f52, go_sem])
    repeat' (first | (first | (((first | apply sp1 | apply sp2 | apply sp3 | apply sp4 | apply sp5 | apply sp6 | apply sp7) <;> intro hb) <;> (simp only [go_sem, hb])) | ((first | apply wm_done | apply wt_done | apply wg_run | refine fk ?_ ?_) <;> (simp only [go_sem]))) | (first | refine cdq ?_ (hc := va) | refine cmq ?_ (hc := va) | refine ctq ?_ (hc := va)); (simp only [go_sem]) | ((first | refine mxq6 [] ?_ | refine mxq5 [] ?_ | refine mxq4 [] ?_ | refine mxq3 [] ?_ | refine mxq2 [] ?_ | refine mxq1 [] ?_ | refine mxq0 [] ?_ | fail); (simp only [go_sem])))
    all_goals (refine hR _ (rat [] (hK := ⟨rfl, rfl⟩)))
  | true =>
    rw [ea] at va
    obtain ⟨x, rfl, hx⟩ := (Ty.valid_iff a).1 ea
    cases eb : b.valid with
    | false =>
      rw [onT_off _ (by simp [eb])]
      rw [eb] at vb
      refine fn_in ?_; refine acl_in Try.func52 rfl isfn_52 (Nat.le_of_ble_eq_true rfl) (fun R hR => ?_); rw [Try.results52] at hR; refine wg_run ?_; (simp only [Try.f52, go_sem])
      repeat' (first | (first | (((first | apply sp1 | apply sp2 | apply sp3 | apply sp4 | apply sp5 | apply sp6 | apply sp7) <;> intro hb) <;> (simp only [go_sem, hb])) | ((first | apply wm_done | apply wt_done | apply wg_run | refine fk ?_ ?_) <;> (simp only [go_sem]))) | (first | refine cdq ?_ (hc := va) | refine cmq ?_ (hc := va) | refine ctq ?_ (hc := va)); (simp only [go_sem]) | (first | refine cdq ?_ (hc := vb) | refine cmq ?_ (hc := vb) | refine ctq ?_ (hc := vb)); (simp only [go_sem]) | ((first | refine mxq6 [] ?_ | refine mxq5 [] ?_ | refine mxq4 [] ?_ | refine mxq3 [] ?_ | refine mxq2 [] ?_ | refine mxq1 [] ?_ | refine mxq0 [] ?_ | fail); (simp only [go_sem])))
      all_goals (refine hR _ (rat [] (hK := ⟨rfl, rfl⟩)))
    | true =>
      rw [eb] at vb
      obtain ⟨y, rfl, hy⟩ := (Ty.valid_iff b).1 eb
      rw [onT_ty _ hx hy]
      have hf := l1Cons _ x y (Nat.lt_succ_self _)
      refine fn_in ?_; refine acl_in Try.func52 rfl isfn_52 (Nat.le_of_ble_eq_true rfl) (fun R hR => ?_); rw [Try.results52] at hR; refine wg_run ?_; (simp only [Try.f52, go_sem])
      repeat' (first | (first | (((first | apply sp1 | apply sp2 | apply sp3 | apply sp4 | apply sp5 | apply sp6 | apply sp7) <;> intro hb) <;> (simp only [go_sem, hb])) | ((first | apply wm_done | apply wt_done | apply wg_run | refine fk ?_ ?_) <;> (simp only [go_sem]))) | (first | refine cdq ?_ (hc := va) | refine cmq ?_ (hc := va) | refine ctq ?_ (hc := va)); (simp only [go_sem]) | (first | refine cdq ?_ (hc := vb) | refine cmq ?_ (hc := vb) | refine ctq ?_ (hc := vb)); (simp only [go_sem]) | (first | refine cdq ?_ (hc := hf) | refine cmq ?_ (hc := hf) | refine ctq ?_ (hc := hf)); (simp only [go_sem]) | ((first | refine mxq6 [] ?_ | refine mxq5 [] ?_ | refine mxq4 [] ?_ | refine mxq3 [] ?_ | refine mxq2 [] ?_ | refine mxq1 [] ?_ | refine mxq0 [] ?_ | fail); (simp only [go_sem])))
      all_goals (refine hR _ (rat [] (hK := ⟨rfl, rfl⟩)))
theorem iCoerceOf (a b : Ty) (l : Int) : AFn Try.prog 14 [.agg (tyC a), .agg (tyC b), .one (.sc (.int .i64 l))] (.tup [.agg (coC (K.coO (a.castV b l))), .one (.sc (.bool (a.castV b l).isSome))]) := by
  have hc := iConsistent a b
  have hl := isLabel l
  rw [onT_cons] at hc
  cases ec : a.castV b l with
  | none =>
    have key : (match a.t?, b.t? with | some x, some y => x.cons y | _, _ => false) = false ∨ ((match a.t?, b.t? with | some x, some y => x.cons y | _, _ => false) = true ∧ lab l = false) := by
      unfold Ty.castV at ec
      revert ec
      cases a.t? <;> cases b.t? <;> simp
      rename_i x y
      cases x.cons y <;> cases lab l <;> simp
    rcases key with key | ⟨key, kl⟩
    · rw [key] at hc
      refine fn_in ?_; refine acl_in Try.func14 rfl isfn_14 (Nat.le_of_ble_eq_true rfl) (fun R hR => ?_); rw [Try.results14] at hR; refine wg_run ?_; (simp only [Try.f14, go_sem])
      repeat' (first | (first | (((first | apply sp1 | apply sp2 | apply sp3 | apply sp4 | apply sp5 | apply sp6 | apply sp7) <;> intro hb) <;> (simp only [go_sem, hb])) | ((first | apply wm_done | apply wt_done | apply wg_run | refine fk ?_ ?_) <;> (simp only [go_sem]))) | (first | refine cdq ?_ (hc := hc) | refine cmq ?_ (hc := hc) | refine ctq ?_ (hc := hc)); (simp only [go_sem]) | (first | refine cdq ?_ (hc := hl) | refine cmq ?_ (hc := hl) | refine ctq ?_ (hc := hl)); (simp only [go_sem]) | ((first | refine mxq6 [] ?_ | refine mxq5 [] ?_ | refine mxq4 [] ?_ | refine mxq3 [] ?_ | refine mxq2 [] ?_ | refine mxq1 [] ?_ | refine mxq0 [] ?_ | fail); (simp only [go_sem])))
      all_goals (refine hR _ (rat [] (hK := ⟨rfl, rfl⟩)))
    · rw [key] at hc
      rw [kl] at hl
      refine fn_in ?_; refine acl_in Try.func14 rfl isfn_14 (Nat.le_of_ble_eq_true rfl) (fun R hR => ?_); rw [Try.results14] at hR; refine wg_run ?_; (simp only [Try.f14, go_sem])
      repeat' (first | (first | (((first | apply sp1 | apply sp2 | apply sp3 | apply sp4 | apply sp5 | apply sp6 | apply sp7) <;> intro hb) <;> (simp only [go_sem, hb])) | ((first | apply wm_done | apply wt_done | apply wg_run | refine fk ?_ ?_) <;> (simp only [go_sem]))) | (first | refine cdq ?_ (hc := hc) | refine cmq ?_ (hc := hc) | refine ctq ?_ (hc := hc)); (simp only [go_sem]) | (first | refine cdq ?_ (hc := hl) | refine cmq ?_ (hc := hl) | refine ctq ?_ (hc := hl)); (simp only [go_sem]) | ((first | refine mxq6 [] ?_ | refine mxq5 [] ?_ | refine mxq4 [] ?_ | refine mxq3 [] ?_ | refine mxq2 [] ?_ | refine mxq1 [] ?_ | refine mxq0 [] ?_ | fail); (simp only [go_sem])))
      all_goals (refine hR _ (rat [] (hK := ⟨rfl, rfl⟩)))
  | some k =>
    obtain ⟨x, y, rfl, rfl, hx, hy, h1, h2, rfl⟩ := Ty.castV_some ec
    rw [Ty.t?_ty hx, Ty.t?_ty hy] at hc
    simp only [h1] at hc
    rw [h2] at hl
    have hk := iCoerce _ x y l (Nat.lt_succ_self _) h1 (lab_wrap h2)
    refine fn_in ?_; refine acl_in Try.func14 rfl isfn_14 (Nat.le_of_ble_eq_true rfl) (fun R hR => ?_); rw [Try.results14] at hR; refine wg_run ?_; (simp only [Try.f14, go_sem])
    repeat' (first | (first | (((first | apply sp1 | apply sp2 | apply sp3 | apply sp4 | apply sp5 | apply sp6 | apply sp7) <;> intro hb) <;> (simp only [go_sem, hb])) | ((first | apply wm_done | apply wt_done | apply wg_run | refine fk ?_ ?_) <;> (simp only [go_sem]))) | (first | refine cdq ?_ (hc := hc) | refine cmq ?_ (hc := hc) | refine ctq ?_ (hc := hc)); (simp only [go_sem]) | (first | refine cdq ?_ (hc := hl) | refine cmq ?_ (hc := hl) | refine ctq ?_ (hc := hl)); (simp only [go_sem]) | (first | refine cdq ?_ (hc := hk) | refine cmq ?_ (hc := hk) | refine ctq ?_ (hc := hk)); (simp only [go_sem]) | ((first | refine mxq6 [] ?_ | refine mxq5 [] ?_ | refine mxq4 [] ?_ | refine mxq3 [] ?_ | refine mxq2 [] ?_ | refine mxq1 [] ?_ | refine mxq0 [] ?_ | fail); (simp only [go_sem])))
    all_goals (refine hR _ (rat [] (hK := ⟨rfl, rfl⟩)))
theorem sCoerceOf (a b : Ty) (l : Int) : AFn Try.prog 15 [.agg (tyC a), .agg (tyC b), .one (.sc (.int .i64 l))] (.tup [.agg (coC (K.coO (a.castV b l))), .one (.sc (.bool (a.castV b l).isSome))]) := by
  have hc := sConsistent a b
  have hl := l6Label l
  rw [onT_cons] at hc
  cases ec : a.castV b l with
  | none =>
    have key : (match a.t?, b.t? with | some x, some y => x.cons y | _, _ => false) = false ∨ ((match a.t?, b.t? with | some x, some y => x.cons y | _, _ => false) = true ∧ lab l = false) := by
      unfold Ty.castV at ec
      revert ec
      cases a.t? <;> cases b.t? <;> simp
      rename_i x y
      cases x.cons y <;> cases lab l <;> simp
    rcases key with key | ⟨key, kl⟩
    · rw [key] at hc
      refine fn_in ?_; refine acl_in Try.func15 rfl isfn_15 (Nat.le_of_ble_eq_true rfl) (fun R hR => ?_); rw [Try.results15] at hR; refine wg_run ?_; (simp only [Try.f15, go_sem])
      repeat' (first | (first | (((first | apply sp1 | apply sp2 | apply sp3 | apply sp4 | apply sp5 | apply sp6 | apply sp7) <;> intro hb) <;> (simp only [go_sem, hb])) | ((first | apply wm_done | apply wt_done | apply wg_run | refine fk ?_ ?_) <;> (simp only [go_sem]))) | (first | refine cdq ?_ (hc := hc) | refine cmq ?_ (hc := hc) | refine ctq ?_ (hc := hc)); (simp only [go_sem]) | (first | refine cdq ?_ (hc := hl) | refine cmq ?_ (hc := hl) | refine ctq ?_ (hc := hl)); (simp only [go_sem]) | ((first | refine mxq6 [] ?_ | refine mxq5 [] ?_ | refine mxq4 [] ?_ | refine mxq3 [] ?_ | refine mxq2 [] ?_ | refine mxq1 [] ?_ | refine mxq0 [] ?_ | fail); (simp only [go_sem])))
      all_goals (refine hR _ (rat [] (hK := ⟨rfl, rfl⟩)))
    · rw [key] at hc
      rw [kl] at hl
      refine fn_in ?_; refine acl_in Try.func15 rfl isfn_15 (Nat.le_of_ble_eq_true rfl) (fun R hR => ?_); rw [Try.results15] at hR; refine wg_run ?_; (simp only [Try.f15, go_sem])
      repeat' (first | (first | (((first | apply sp1 | apply sp2 | apply sp3 | apply sp4 | apply sp5 | apply sp6 | apply sp7) <;> intro hb) <;> (simp only [go_sem, hb])) | ((first | apply wm_done | apply wt_done | apply wg_run | refine fk ?_ ?_) <;> (simp only [go_sem]))) | (first | refine cdq ?_ (hc := hc) | refine cmq ?_ (hc := hc) | refine ctq ?_ (hc := hc)); (simp only [go_sem]) | (first | refine cdq ?_ (hc := hl) | refine cmq ?_ (hc := hl) | refine ctq ?_ (hc := hl)); (simp only [go_sem]) | ((first | refine mxq6 [] ?_ | refine mxq5 [] ?_ | refine mxq4 [] ?_ | refine mxq3 [] ?_ | refine mxq2 [] ?_ | refine mxq1 [] ?_ | refine mxq0 [] ?_ | fail); (simp only [go_sem])))
      all_goals (refine hR _ (rat [] (hK := ⟨rfl, rfl⟩)))
  | some k =>
    obtain ⟨x, y, rfl, rfl, hx, hy, h1, h2, rfl⟩ := Ty.castV_some ec
    rw [Ty.t?_ty hx, Ty.t?_ty hy] at hc
    simp only [h1] at hc
    rw [h2] at hl
    have hk := sCast _ x y l (Nat.lt_succ_self _) h1 (lab_wrap h2)
    refine fn_in ?_; refine acl_in Try.func15 rfl isfn_15 (Nat.le_of_ble_eq_true rfl) (fun R hR => ?_); rw [Try.results15] at hR; refine wg_run ?_; (simp only [Try.f15, go_sem])
    repeat' (first | (first | (((first | apply sp1 | apply sp2 | apply sp3 | apply sp4 | apply sp5 | apply sp6 | apply sp7) <;> intro hb) <;> (simp only [go_sem, hb])) | ((first | apply wm_done | apply wt_done | apply wg_run | refine fk ?_ ?_) <;> (simp only [go_sem]))) | (first | refine cdq ?_ (hc := hc) | refine cmq ?_ (hc := hc) | refine ctq ?_ (hc := hc)); (simp only [go_sem]) | (first | refine cdq ?_ (hc := hl) | refine cmq ?_ (hc := hl) | refine ctq ?_ (hc := hl)); (simp only [go_sem]) | (first | refine cdq ?_ (hc := hk) | refine cmq ?_ (hc := hk) | refine ctq ?_ (hc := hk)); (simp only [go_sem]) | ((first | refine mxq6 [] ?_ | refine mxq5 [] ?_ | refine mxq4 [] ?_ | refine mxq3 [] ?_ | refine mxq2 [] ?_ | refine mxq1 [] ?_ | refine mxq0 [] ?_ | fail); (simp only [go_sem])))
    all_goals (refine hR _ (rat [] (hK := ⟨rfl, rfl⟩)))
end Go.Proofs.Ytbiobfbonpiiiaa
