/- Texts of the proof, one behind another. -/
import Derived.Lib.SlicesCompact
import Derived.Laws.Strings
import Derived.Test.YtfgjiamolknicaaK4
set_option linter.unusedSimpArgs false
set_option linter.unusedVariables false
/- Lists of labels: sorted, each once. No program, no world. -/
namespace Go.Proofs.Grad
/-- n among the numbers of l, ahead of the first greater one -/
def ins (n : Int) : List Int → List Int
  | [] => [n]
  | x :: l => match decide (n < x) with | true => n :: x :: l | false => x :: ins n l
def gtAny (n : Int) (l : List Int) : Bool := l.any fun x => decide (n < x)
def hasN (n : Int) (l : List Int) : Bool := l.any fun x => x == n
/-- n among the numbers of l, once -/
def insF (l : List Int) (n : Int) : List Int := match hasN n l with | true => l | false => ins n l
/-- how far the loop is -/
def insP (n : Int) (l : List Int) : List Int := match gtAny n l with | true => ins n l | false => l
theorem gtAny_snoc (n x : Int) (l : List Int) : gtAny n (l ++ [x]) = (gtAny n l || decide (n < x)) := by simp [gtAny]
theorem hasN_snoc (n x : Int) (l : List Int) : hasN n (l ++ [x]) = (hasN n l || x == n) := by simp [hasN]
theorem ins_snoc (n x : Int) : ∀ l : List Int, ins n (l ++ [x]) = match gtAny n l with | true => ins n l ++ [x] | false => (match decide (n < x) with | true => l ++ [n, x] | false => l ++ [x, n])
  | [] => by simp only [List.nil_append, ins, gtAny, List.any_nil]
  | y :: l => by
    have ih := ins_snoc n x l
    simp only [List.cons_append, ins, gtAny, List.any_cons] at ih ⊢
    cases h : decide (n < y)
    · simp only [Bool.false_or]
      rw [ih]
      split
      · rfl
      · split <;> rfl
    · simp
theorem ins_none (n : Int) : ∀ l : List Int, gtAny n l = false → ins n l = l ++ [n]
  | [], _ => rfl
  | y :: l, h => by
    simp only [gtAny, List.any_cons, Bool.or_eq_false_iff] at h
    simp only [ins, h.1, List.cons_append]
    rw [ins_none n l h.2]
theorem insP_snoc (n x : Int) (l : List Int) : insP n (l ++ [x]) = match gtAny n l with | true => insP n l ++ [x] | false => (match decide (n < x) with | true => insP n l ++ [n] ++ [x] | false => insP n l ++ [x]) := by
  unfold insP
  rw [gtAny_snoc, ins_snoc]
  cases h : gtAny n l
  · cases h2 : decide (n < x) <;> simp
  · simp
theorem ins_length (n : Int) : ∀ l : List Int, (ins n l).length = l.length + 1
  | [] => rfl
  | y :: l => by simp only [ins]; split <;> simp [ins_length n l]
theorem insP_length (n : Int) (l : List Int) : (insP n l).length = l.length + (match gtAny n l with | true => 1 | false => 0) := by
  unfold insP; split <;> simp [ins_length, *]
theorem insF_length (n : Int) (l : List Int) : (insF l n).length ≤ l.length + 1 := by
  unfold insF; split
  · omega
  · rw [ins_length]; exact Nat.le_refl _
theorem insF_cons (n : Int) (l : List Int) : ∃ a m, insF l n = a :: m := by
  cases l with
  | nil => exact ⟨n, [], rfl⟩
  | cons x l =>
    unfold insF
    split
    · exact ⟨_, _, rfl⟩
    · simp only [ins]; split <;> exact ⟨_, _, rfl⟩
/-- each number greater than those before it -/
def Up (l : List Int) : Prop := l.Pairwise (· < ·)
theorem mem_ins (n x : Int) : ∀ l : List Int, x ∈ ins n l ↔ x = n ∨ x ∈ l
  | [] => by simp [ins]
  | y :: l => by
    simp only [ins]; split
    · simp
    · simp [mem_ins n x l]; grind
theorem mem_hasN (n : Int) (l : List Int) : hasN n l = true ↔ n ∈ l := by simp [hasN]
theorem mem_insF (n x : Int) (l : List Int) : x ∈ insF l n ↔ x = n ∨ x ∈ l := by
  unfold insF
  cases h : hasN n l
  · exact mem_ins n x l
  · have := (mem_hasN n l).1 h
    simp only []
    exact ⟨.inr, fun h => h.elim (fun e => e ▸ this) (fun h => h)⟩
theorem up_ins (n : Int) : ∀ l : List Int, Up l → n ∉ l → Up (ins n l)
  | [], _, _ => by simp [ins, Up]
  | y :: l, h, hn => by
    simp only [Up, List.pairwise_cons, List.mem_cons, not_or] at h hn ⊢
    simp only [ins]
    cases h2 : decide (n < y)
    · simp only [List.pairwise_cons]
      refine ⟨fun x hx => ?_, up_ins n l h.2 hn.2⟩
      have h2 := of_decide_eq_false h2
      rcases (mem_ins n x l).1 hx with rfl | hx
      · have := hn.1; omega
      · exact h.1 x hx
    · have h2 := of_decide_eq_true h2
      simp only [List.pairwise_cons, List.mem_cons]
      exact ⟨fun x hx => hx.elim (fun e => e ▸ h2) (fun hx => Int.lt_trans h2 (h.1 x hx)), h⟩
theorem up_insF (n : Int) (l : List Int) (h : Up l) : Up (insF l n) := by
  unfold insF
  cases h2 : hasN n l
  · exact up_ins n l h (fun hm => by rw [(mem_hasN n l).2 hm] at h2; cases h2)
  · exact h
theorem up_ext : ∀ {l m : List Int}, Up l → Up m → (∀ x, x ∈ l ↔ x ∈ m) → l = m
  | [], [], _, _, _ => rfl
  | [], y :: m, _, _, h => absurd ((h y).2 (by simp)) (by simp)
  | x :: l, [], _, _, h => absurd ((h x).1 (by simp)) (by simp)
  | x :: l, y :: m, hl, hm, h => by
    simp only [Up, List.pairwise_cons] at hl hm
    have e : x = y := by
      rcases List.mem_cons.1 ((h x).1 (by simp)) with e | e
      · exact e
      · rcases List.mem_cons.1 ((h y).2 (by simp)) with e' | e'
        · exact e'.symm
        · have := hl.1 y e'; have := hm.1 x e; omega
    subst e
    congr 1
    refine up_ext hl.2 hm.2 fun z => ?_
    constructor
    · intro hz
      rcases List.mem_cons.1 ((h z).1 (List.mem_cons_of_mem _ hz)) with e | e
      · subst e; have := hl.1 z hz; omega
      · exact e
    · intro hz
      rcases List.mem_cons.1 ((h z).2 (List.mem_cons_of_mem _ hz)) with e | e
      · subst e; have := hm.1 z hz; omega
      · exact e
/-- what the library's two calls make of a list -/
def srt (l : List Int) : List Int := l.mergeSort fun x y => decide (x ≤ y)
def setL (l : List Int) : List Int := Lib.compact (srt l)
theorem srt_length (l : List Int) : (srt l).length = l.length := by simp [srt]
theorem compactUpTo_spec (d : Array Int) (hd : ∀ i j, i ≤ j → j < d.size → d[i]! ≤ d[j]!) : ∀ m, m ≤ d.size → Up (Lib.compactUpTo d m) ∧ (∀ x, x ∈ Lib.compactUpTo d m ↔ ∃ j, j < m ∧ d[j]! = x) ∧ (Lib.compactUpTo d m).length ≤ m := by
  intro m
  induction m with
  | zero => intro _; simp [Lib.compactUpTo, Up]
  | succ m ih =>
    intro h
    obtain ⟨h1, h2, h3⟩ := ih (by omega)
    rw [Lib.compactUpTo_succ]
    cases hk : Lib.keeps d m
    · have hk' : ¬ (m = 0 ∨ d[m]! ≠ d[m - 1]!) := of_decide_eq_false hk
      have hm : m ≠ 0 := fun e => hk' (.inl e)
      have he : d[m]! = d[m - 1]! := by
        rcases Decidable.em (d[m]! = d[m - 1]!) with e | e
        · exact e
        · exact absurd (.inr e) hk'
      simp only [Bool.false_eq_true, if_false, List.append_nil]
      refine ⟨h1, fun x => ?_, by omega⟩
      rw [h2]
      constructor
      · rintro ⟨j, hj, e⟩; exact ⟨j, by omega, e⟩
      · rintro ⟨j, hj, e⟩
        rcases Nat.lt_or_ge j m with hj' | hj'
        · exact ⟨j, hj', e⟩
        · exact ⟨m - 1, by omega, by rw [← he, ← e]; congr; omega⟩
    · have hk' : m = 0 ∨ d[m]! ≠ d[m - 1]! := of_decide_eq_true hk
      rw [if_pos rfl]
      refine ⟨?_, fun x => ?_, by simp; omega⟩
      · unfold Up at h1 ⊢
        rw [List.pairwise_append]
        refine ⟨h1, by simp, fun x hx y hy => ?_⟩
        simp at hy; subst hy
        obtain ⟨j, hj, e⟩ := (h2 x).1 hx
        have a1 := hd j (m - 1) (by omega) (by omega)
        have a2 := hd (m - 1) m (by omega) (by omega)
        rcases hk' with e' | e'
        · omega
        · subst e; omega
      · simp only [List.mem_append, List.mem_singleton, h2]
        constructor
        · rintro (⟨j, hj, e⟩ | e)
          · exact ⟨j, by omega, e⟩
          · exact ⟨m, by omega, e.symm⟩
        · rintro ⟨j, hj, e⟩
          rcases Nat.lt_or_ge j m with hj' | hj'
          · exact .inl ⟨j, hj', e⟩
          · exact .inr (by rw [← e]; congr; omega)
theorem setL_spec (l : List Int) : Up (setL l) ∧ (∀ x, x ∈ setL l ↔ x ∈ l) ∧ (setL l).length ≤ l.length := by
  have hs : (srt l).Pairwise (fun x y => decide (x ≤ y) = true) := List.pairwise_mergeSort (fun a b c h1 h2 => by simp at *; omega) (fun a b => by simp; omega) l
  have hd : ∀ i j, i ≤ j → j < (srt l).toArray.size → (srt l).toArray[i]! ≤ (srt l).toArray[j]! := by
    intro i j hij hj
    have hj' : j < (srt l).length := by simpa using hj
    rcases Nat.lt_or_ge i j with h | h
    · have := List.pairwise_iff_getElem.1 hs i j (by omega) hj' h
      simp only [decide_eq_true_eq] at this
      simp only [List.getElem!_toArray]
      rw [List.getElem!_eq_getElem?_getD, List.getElem!_eq_getElem?_getD, List.getElem?_eq_getElem (by omega : i < (srt l).length), List.getElem?_eq_getElem hj']
      exact this
    · have : i = j := by omega
      subst this; exact Int.le_refl _
  obtain ⟨h1, h2, h3⟩ := compactUpTo_spec (srt l).toArray hd (srt l).length (by simp)
  refine ⟨h1, fun x => ?_, Nat.le_trans h3 (Nat.le_of_eq (srt_length l))⟩
  rw [show setL l = Lib.compactUpTo (srt l).toArray (srt l).length from rfl, h2]
  have hm : x ∈ srt l ↔ x ∈ l := List.mem_mergeSort
  rw [← hm]
  constructor
  · rintro ⟨j, hj, e⟩
    simp only [List.getElem!_toArray] at e
    rw [List.getElem!_eq_getElem?_getD, List.getElem?_eq_getElem hj] at e
    exact List.mem_of_getElem (h := hj) e
  · intro h
    obtain ⟨j, hj, e⟩ := List.getElem_of_mem h
    refine ⟨j, hj, ?_⟩
    simp only [List.getElem!_toArray]
    rw [List.getElem!_eq_getElem?_getD, List.getElem?_eq_getElem hj]
    exact e
/-- one after another -/
def insL (out : List Int) (l : List Int) : List Int := l.foldl insF out
theorem insL_spec (l : List Int) : ∀ out, Up out → Up (insL out l) ∧ ∀ x, x ∈ insL out l ↔ x ∈ out ∨ x ∈ l := by
  induction l with
  | nil => intro out h; exact ⟨h, fun x => by simp [insL]⟩
  | cons n l ih =>
    intro out h
    obtain ⟨h1, h2⟩ := ih (insF out n) (up_insF n out h)
    refine ⟨h1, fun x => ?_⟩
    rw [show insL out (n :: l) = insL (insF out n) l from rfl, h2, mem_insF]
    simp only [List.mem_cons]; grind
theorem insL_setL (l : List Int) : insL [] l = setL l := by
  obtain ⟨h1, h2⟩ := insL_spec l [] (by simp [Up])
  obtain ⟨h3, h4, _⟩ := setL_spec l
  exact up_ext h1 h3 fun x => by rw [h2, h4]; simp
theorem compact_len (l : List Int) : (Lib.compact l).length ≤ l.length := by
  have : ∀ m, (Lib.compactUpTo l.toArray m).length ≤ m := by
    intro m
    induction m with
    | zero => simp [Lib.compactUpTo]
    | succ m ih => rw [Lib.compactUpTo_succ, List.length_append]; split <;> simp <;> omega
  exact this _
theorem insL_append (out l m : List Int) : insL out (l ++ m) = insL (insL out l) m := by simp [insL]
theorem insL_len (l : List Int) : ∀ out, (insL out l).length ≤ out.length + l.length := by
  induction l with
  | nil => intro out; simp [insL]
  | cons n l ih => intro out; have := ih (insF out n); have := insF_length n out; simp only [insL, List.foldl_cons, List.length_cons] at *; omega
theorem setL_nil_iff (l : List Int) : setL l = [] ↔ l = [] := by
  obtain ⟨_, h, _⟩ := setL_spec l
  constructor
  · intro e
    cases l with
    | nil => rfl
    | cons x l => have := (h x).2 (by simp); rw [e] at this; simp at this
  · rintro rfl
    cases e : setL [] with
    | nil => rfl
    | cons y m => have := (h y).1 (by rw [e]; simp); simp at this
end Go.Proofs.Grad
/- The library's sort and its removal of neighbours, as contracts on shadows. -/
namespace Go.Proofs.Sh
open Go.Proofs.Grad
theorem grow_none (w : World) : Go.Sort.grow w #[] = w := by
  simp [Go.Sort.grow]
attribute [go_sem] List.getD_cons_zero List.getD_cons_succ List.getD_nil
end Go.Proofs.Sh
namespace Go.Proofs.Ytfgjiamolknicaa
open Go.RowKit Go.Proofs.Sh Go.Proofs.Grad
theorem one_of_len {μ : List Nat} (h : μ.length = 1) : ∃ g, μ = [g] := by
  match μ, h with
  | [g], _ => exact ⟨g, rfl⟩
theorem sortCall (zs : List Int) (hz : zs.length < 4611686018427387904) : ACl Try.prog 121 [.one (.row 1 0 zs.length)] [⟨1, 3, .mut, intR zs⟩] (fun r H' => r = .tup [] ∧ H' = [⟨1, 3, .mut, intR (srt zs)⟩]) := by
  refine ⟨⟨isfn_121, fun X μ w vs hS hr => ?_⟩⟩
  obtain ⟨g, rfl⟩ := one_of_len hS.len
  simp only [AV.repl, AV.rep, C.rep, List.getElem?_cons_zero, Option.some.injEq] at hr
  obtain ⟨u, us, e1, ⟨g', cap, rfl, rfl, h1, h2, h3⟩, rfl⟩ := hr
  obtain rfl : vs = #[.slice (some ⟨g, 0, none⟩) zs.length cap] := by rw [← Array.toList_inj]; exact e1
  have hlt : g < w.heap.size := hS.lt g (by simp)
  refine (Any.slices_Sort_int sortLays g 0 cap zs w (sim_holds hS) hlt hz).mono fun e w' ⟨he, n, os, hw⟩ => ?_
  subst hw
  obtain ⟨h4, h5⟩ := put_sim (os := os) (n := n) hS (d := srt zs) (l := srt zs) (srt_length zs) (Nat.le_refl _) (fun j h => List.getElem?_eq_getElem h)
  exact ⟨.tup [], _, [g], _, he, ⟨rfl, rfl⟩, h4, h5, ⟨#[], rfl, by simp [AV.repl]⟩⟩
theorem sortNil : AFn Try.prog 121 [.one (.sl [])] (.tup []) := by
  refine fn_in ⟨⟨isfn_121, fun X μ w vs hS hr => ?_⟩⟩
  simp only [AV.repl, AV.rep, C.rep] at hr
  obtain ⟨u, us, e1, ⟨p, cap, rfl, _⟩, rfl⟩ := hr
  obtain rfl : vs = #[.slice p 0 cap] := by rw [← Array.toList_inj]; exact e1
  refine (Any.slices_Sort_int_none sortLays p cap w).mono fun e w' ⟨he, hw⟩ => ?_
  subst hw
  exact ⟨.tup [], [], μ, _, he, ⟨rfl, rfl⟩, hS, Stp.refl _ _ _, ⟨#[], rfl, by simp [AV.repl]⟩⟩
theorem compCall (zs : List Int) (hz : zs.length < 4611686018427387904) : ACl Try.prog 122 [.one (.row 1 0 zs.length)] [⟨1, 3, .mut, intR zs⟩] (fun r H' => r = .one (.row 1 0 (Lib.compact zs).length) ∧ H' = [⟨1, 3, .mut, intR (Lib.compact zs)⟩]) := by
  refine ⟨⟨isfn_122, fun X μ w vs hS hr => ?_⟩⟩
  obtain ⟨g, rfl⟩ := one_of_len hS.len
  simp only [AV.repl, AV.rep, C.rep, List.getElem?_cons_zero, Option.some.injEq] at hr
  obtain ⟨u, us, e1, ⟨g', cap, rfl, rfl, h1, h2, h3⟩, rfl⟩ := hr
  obtain rfl : vs = #[.slice (some ⟨g, 0, none⟩) zs.length cap] := by rw [← Array.toList_inj]; exact e1
  have hc : (Lib.compact zs).length ≤ zs.length := compact_len zs
  refine (Any.slices_Compact_int compLays g 0 cap zs w (sim_holds hS) (by omega) h1).mono fun e w' ⟨he, n, hw⟩ => ?_
  have hw' : w' = Go.Sort.grow (Go.Sort.putRow (Value.int .i64) (Go.Sort.ahead w n) g 0 (Lib.compact zs ++ List.replicate (zs.length - (Lib.compact zs).length) 0).toArray) #[] := by rw [grow_none, hw]
  subst hw'
  obtain ⟨h4, h5⟩ := put_sim (os := #[]) (n := n) hS (d := Lib.compact zs ++ List.replicate (zs.length - (Lib.compact zs).length) 0) (l := Lib.compact zs) (by simp; omega) (by simp) (fun j h => by rw [List.getElem?_append_left h]; exact List.getElem?_eq_getElem h)
  exact ⟨_, _, [g], _, he, ⟨rfl, rfl⟩, h4, h5, ⟨g, cap, rfl, rfl, by omega, h2, h5.keep.row h3⟩⟩
theorem compNil : AFn Try.prog 122 [.one (.sl [])] (.one (.sl [])) := by
  refine fn_in ⟨⟨isfn_122, fun X μ w vs hS hr => ?_⟩⟩
  simp only [AV.repl, AV.rep, C.rep] at hr
  obtain ⟨u, us, e1, ⟨p, cap, rfl, h1, h2, h3⟩, rfl⟩ := hr
  obtain rfl : vs = #[.slice p 0 cap] := by rw [← Array.toList_inj]; exact e1
  refine (Any.slices_Compact_int_empty compLays p cap w).mono fun e w' ⟨he, hw⟩ => ?_
  subst hw
  exact ⟨.one (.sl []), [], μ, _, he, ⟨rfl, rfl⟩, hS, Stp.refl _ _ _, by simp only [AV.rep, C.rep]; exact ⟨p, cap, rfl, h1, h2, h3⟩⟩
end Go.Proofs.Ytfgjiamolknicaa
/- Sorted labels in the reference. On shadows. -/
namespace Go.Proofs.Grad
theorem gtAny_take {l : List Int} {k : Nat} (n : Int) (h : k < l.length) : gtAny n (l.take (k + 1)) = (gtAny n (l.take k) || decide (n < Sh.num l k)) := by rw [Sh.numtake h, gtAny_snoc]
theorem hasN_take {l : List Int} {k : Nat} (n : Int) (h : k < l.length) : hasN n (l.take (k + 1)) = (hasN n (l.take k) || Sh.num l k == n) := by rw [Sh.numtake h, hasN_snoc]
theorem insP_take {l : List Int} {k : Nat} (n : Int) (h : k < l.length) : insP n (l.take (k + 1)) = match gtAny n (l.take k) with | true => insP n (l.take k) ++ [Sh.num l k] | false => (match decide (n < Sh.num l k) with | true => insP n (l.take k) ++ [n] ++ [Sh.num l k] | false => insP n (l.take k) ++ [Sh.num l k]) := by rw [Sh.numtake h]; exact insP_snoc n (Sh.num l k) (l.take k)
theorem hasN_of_take {l : List Int} {k : Nat} (n : Int) (h : k < l.length) (e : (Sh.num l k == n) = true) : hasN n l = true := by
  rw [mem_hasN, ← (beq_iff_eq.1 e), Sh.num_eq h]
  exact List.getElem_mem h
end Go.Proofs.Grad
namespace Go.Proofs.Ytfgjiamolknicaa
open Go.RowKit Go.Proofs.Sh Go.Proofs.Grad
set_option maxRecDepth 100000
set_option maxHeartbeats 8000000
theorem l4Sorted (l : List Int) (n : Int) (hl : l.length < 1000000) : AFn Try.prog 118 [.one (.sl (intR l)), .one (.sc (.int .i64 n))] (.one (.sl (intR (insF l n)))) := by
  refine fn_in ?_; refine acl_in Try.func118 rfl isfn_118 (Nat.le_of_ble_eq_true rfl) (fun R hR => ?_); rw [Try.results118] at hR; refine wg_run ?_; (simp only [Try.f118, go_sem])
  repeat' (first | ((first | refine wd_split _ (fun hb => ?_) (fun hb => ?_) | refine wd_nwant _ (fun hb => ?_) (fun hb => ?_) | refine wm_nwant _ (fun hb => ?_) (fun hb => ?_) | refine wd_want _ (fun hb => ?_) (fun hb => ?_) | refine wm_want _ (fun hb => ?_) (fun hb => ?_) | refine wt_nwant _ (fun hb => ?_) (fun hb => ?_) | refine wt_want _ (fun hb => ?_) (fun hb => ?_)) <;> (simp only [go_sem, hb])) | (refine wm_done ?_; (simp only [go_sem])) | (refine wt_done ?_; (simp only [go_sem])) | (refine wg_run ?_; (simp only [go_sem])) | (refine wt_fork (by (simp only [go_sem]); first | done | rfl) ?_ ?_ <;> (simp only [go_sem])))
  refine wd_for [0, 1, 5, 6, 7] (fun (x : Nat × Bool × List Int) => [.one (.sl (intR l)), .one (.sc (.int .i64 n)), .one (.row 1 0 x.2.2.length), .one (.sc (.bool x.2.1)), .one (.sc (.int .i64 (x.1 : Nat)))]) (fun x => [⟨1, 3, .mut, intR x.2.2⟩])
    (fun x => x.1 ≤ l.length ∧ hasN n (l.take x.1) = false ∧ x.2.1 = gtAny n (l.take x.1) ∧ x.2.2 = insP n (l.take x.1)) (fun x => l.length - x.1) (0, false, []) ⟨Nat.zero_le _, rfl, rfl, rfl⟩ (head_at [0] (by (simp only [go_sem]); first | done | rfl) (by (simp only [go_sem]); first | done | rfl) ⟨rfl, rfl⟩) ?_
  rintro ⟨k, d, acc⟩ ⟨hk, hno, hd, hacc⟩ G hG
  simp only [] at hk hno hd hacc hG
  have hal : acc.length ≤ l.length + 1 := by
    rw [hacc, insP_length, List.length_take]; split <;> omega
  refine wg_run ?_
  (simp only [go_sem])
  (first | refine wd_split _ (fun hb => ?_) (fun hb => ?_) | refine wd_nwant _ (fun hb => ?_) (fun hb => ?_) | refine wm_nwant _ (fun hb => ?_) (fun hb => ?_) | refine wd_want _ (fun hb => ?_) (fun hb => ?_) | refine wm_want _ (fun hb => ?_) (fun hb => ?_) | refine wt_nwant _ (fun hb => ?_) (fun hb => ?_) | refine wt_want _ (fun hb => ?_) (fun hb => ?_)) <;> (simp only [go_sem, hb])
  · have hk1 : k < l.length := by have := of_decide_eq_true hb; omega
    have hw1 := wrap_succ hk1 (by omega)
    have hcap : (acc.length + 1) * 8 ≤ 140737488355328 := by omega
    have hcap2 : (acc.length + 1 + 1) * 8 ≤ 140737488355328 := by omega
    cases e1 : (num l k == n)
    · have hno' : hasN n (l.take (k + 1)) = false := by rw [hasN_take n hk1, hno, e1]; rfl
      have hip := insP_take n hk1
      have hgp := gtAny_take n hk1
      rw [← hd, ← hacc] at hip
      rw [← hd] at hgp
      cases d
      · cases e2 : decide (num l k > n)
        · have e2' : decide (n < num l k) = false := e2
          rw [e2'] at hip hgp
          repeat' (first | (first | (simp only [go_sem, hb, hw1, hcap, e1, e2]) | ((first | refine wd_split _ (fun hb => ?_) (fun hb => ?_) | refine wd_nwant _ (fun hb => ?_) (fun hb => ?_) | refine wm_nwant _ (fun hb => ?_) (fun hb => ?_) | refine wd_want _ (fun hb => ?_) (fun hb => ?_) | refine wm_want _ (fun hb => ?_) (fun hb => ?_) | refine wt_nwant _ (fun hb => ?_) (fun hb => ?_) | refine wt_want _ (fun hb => ?_) (fun hb => ?_)) <;> (simp only [go_sem, hb, hb, hw1, hcap, e1, e2])) | (refine wm_done ?_; (simp only [go_sem, hb, hw1, hcap, e1, e2])) | (refine wt_done ?_; (simp only [go_sem, hb, hw1, hcap, e1, e2])) | (refine wg_run ?_; (simp only [go_sem, hb, hw1, hcap, e1, e2])) | (refine wt_fork (by (simp only [go_sem]); first | done | rfl) ?_ ?_ <;> (simp only [go_sem, hb, hw1, hcap, e1, e2]))) | ((first | refine wd_mix 6 [] follows (by decide +kernel) (by (simp only [go_sem]); first | done | rfl) ?_ | refine wd_mix 5 [] follows (by decide +kernel) (by (simp only [go_sem]); first | done | rfl) ?_ | refine wd_mix 4 [] follows (by decide +kernel) (by (simp only [go_sem]); first | done | rfl) ?_ | refine wd_mix 3 [] follows (by decide +kernel) (by (simp only [go_sem]); first | done | rfl) ?_ | refine wd_mix 2 [] follows (by decide +kernel) (by (simp only [go_sem]); first | done | rfl) ?_ | refine wd_mix 1 [] follows (by decide +kernel) (by (simp only [go_sem]); first | done | rfl) ?_ | refine wd_mix 0 [] follows (by decide +kernel) (by (simp only [go_sem]); first | done | rfl) ?_ | fail); (simp only [go_sem, hb, hcap, e1, e2])) | fail)
          refine hG (k + 1, false, acc ++ [num l k]) _ _ ⟨by omega, hno', by rw [hgp]; rfl, hip.symm⟩ (by simp only []; omega) (head_at [2] (by (simp only [go_sem]); first | done | rfl) (by (simp only [go_sem]); first | done | rfl) ⟨?_, ?_⟩)
          · simp only [List.length_append, List.length_cons, List.length_nil]
          · simp only [intR_append, intR]
        · have e2' : decide (n < num l k) = true := e2
          rw [e2'] at hip hgp
          repeat' (first | (first | (simp only [go_sem, hb, hw1, hcap, hcap2, e1, e2]) | ((first | refine wd_split _ (fun hb => ?_) (fun hb => ?_) | refine wd_nwant _ (fun hb => ?_) (fun hb => ?_) | refine wm_nwant _ (fun hb => ?_) (fun hb => ?_) | refine wd_want _ (fun hb => ?_) (fun hb => ?_) | refine wm_want _ (fun hb => ?_) (fun hb => ?_) | refine wt_nwant _ (fun hb => ?_) (fun hb => ?_) | refine wt_want _ (fun hb => ?_) (fun hb => ?_)) <;> (simp only [go_sem, hb, hb, hw1, hcap, hcap2, e1, e2])) | (refine wm_done ?_; (simp only [go_sem, hb, hw1, hcap, hcap2, e1, e2])) | (refine wt_done ?_; (simp only [go_sem, hb, hw1, hcap, hcap2, e1, e2])) | (refine wg_run ?_; (simp only [go_sem, hb, hw1, hcap, hcap2, e1, e2])) | (refine wt_fork (by (simp only [go_sem]); first | done | rfl) ?_ ?_ <;> (simp only [go_sem, hb, hw1, hcap, hcap2, e1, e2]))) | ((first | refine wd_mix 6 [] follows (by decide +kernel) (by (simp only [go_sem]); first | done | rfl) ?_ | refine wd_mix 5 [] follows (by decide +kernel) (by (simp only [go_sem]); first | done | rfl) ?_ | refine wd_mix 4 [] follows (by decide +kernel) (by (simp only [go_sem]); first | done | rfl) ?_ | refine wd_mix 3 [] follows (by decide +kernel) (by (simp only [go_sem]); first | done | rfl) ?_ | refine wd_mix 2 [] follows (by decide +kernel) (by (simp only [go_sem]); first | done | rfl) ?_ | refine wd_mix 1 [] follows (by decide +kernel) (by (simp only [go_sem]); first | done | rfl) ?_ | refine wd_mix 0 [] follows (by decide +kernel) (by (simp only [go_sem]); first | done | rfl) ?_ | fail); (simp only [go_sem, hb, hcap, hcap2, e1, e2])) | fail)
          refine hG (k + 1, true, acc ++ [n] ++ [num l k]) _ _ ⟨by omega, hno', by rw [hgp]; rfl, hip.symm⟩ (by simp only []; omega) (head_at [4] (by (simp only [go_sem]); first | done | rfl) (by (simp only [go_sem]); first | done | rfl) ⟨?_, ?_⟩)
          · simp only [List.length_append, List.length_cons, List.length_nil]
          · simp only [intR_append, intR]
      · repeat' (first | (first | (simp only [go_sem, hb, hw1, hcap, e1]) | ((first | refine wd_split _ (fun hb => ?_) (fun hb => ?_) | refine wd_nwant _ (fun hb => ?_) (fun hb => ?_) | refine wm_nwant _ (fun hb => ?_) (fun hb => ?_) | refine wd_want _ (fun hb => ?_) (fun hb => ?_) | refine wm_want _ (fun hb => ?_) (fun hb => ?_) | refine wt_nwant _ (fun hb => ?_) (fun hb => ?_) | refine wt_want _ (fun hb => ?_) (fun hb => ?_)) <;> (simp only [go_sem, hb, hb, hw1, hcap, e1])) | (refine wm_done ?_; (simp only [go_sem, hb, hw1, hcap, e1])) | (refine wt_done ?_; (simp only [go_sem, hb, hw1, hcap, e1])) | (refine wg_run ?_; (simp only [go_sem, hb, hw1, hcap, e1])) | (refine wt_fork (by (simp only [go_sem]); first | done | rfl) ?_ ?_ <;> (simp only [go_sem, hb, hw1, hcap, e1]))) | ((first | refine wd_mix 6 [] follows (by decide +kernel) (by (simp only [go_sem]); first | done | rfl) ?_ | refine wd_mix 5 [] follows (by decide +kernel) (by (simp only [go_sem]); first | done | rfl) ?_ | refine wd_mix 4 [] follows (by decide +kernel) (by (simp only [go_sem]); first | done | rfl) ?_ | refine wd_mix 3 [] follows (by decide +kernel) (by (simp only [go_sem]); first | done | rfl) ?_ | refine wd_mix 2 [] follows (by decide +kernel) (by (simp only [go_sem]); first | done | rfl) ?_ | refine wd_mix 1 [] follows (by decide +kernel) (by (simp only [go_sem]); first | done | rfl) ?_ | refine wd_mix 0 [] follows (by decide +kernel) (by (simp only [go_sem]); first | done | rfl) ?_ | fail); (simp only [go_sem, hb, hcap, e1])) | fail)
        refine hG (k + 1, true, acc ++ [num l k]) _ _ ⟨by omega, hno', by rw [hgp]; rfl, hip.symm⟩ (by simp only []; omega) (head_at [2] (by (simp only [go_sem]); first | done | rfl) (by (simp only [go_sem]); first | done | rfl) ⟨?_, ?_⟩)
        · simp only [List.length_append, List.length_cons, List.length_nil]
        · simp only [intR_append, intR]
    · repeat' (first | (first | (simp only [go_sem, hb, e1]) | ((first | refine wd_split _ (fun hb => ?_) (fun hb => ?_) | refine wd_nwant _ (fun hb => ?_) (fun hb => ?_) | refine wm_nwant _ (fun hb => ?_) (fun hb => ?_) | refine wd_want _ (fun hb => ?_) (fun hb => ?_) | refine wm_want _ (fun hb => ?_) (fun hb => ?_) | refine wt_nwant _ (fun hb => ?_) (fun hb => ?_) | refine wt_want _ (fun hb => ?_) (fun hb => ?_)) <;> (simp only [go_sem, hb, hb, e1])) | (refine wm_done ?_; (simp only [go_sem, hb, e1])) | (refine wt_done ?_; (simp only [go_sem, hb, e1])) | (refine wg_run ?_; (simp only [go_sem, hb, e1])) | (refine wt_fork (by (simp only [go_sem]); first | done | rfl) ?_ ?_ <;> (simp only [go_sem, hb, e1]))) | ((first | refine wd_mix 6 [] follows (by decide +kernel) (by (simp only [go_sem]); first | done | rfl) ?_ | refine wd_mix 5 [] follows (by decide +kernel) (by (simp only [go_sem]); first | done | rfl) ?_ | refine wd_mix 4 [] follows (by decide +kernel) (by (simp only [go_sem]); first | done | rfl) ?_ | refine wd_mix 3 [] follows (by decide +kernel) (by (simp only [go_sem]); first | done | rfl) ?_ | refine wd_mix 2 [] follows (by decide +kernel) (by (simp only [go_sem]); first | done | rfl) ?_ | refine wd_mix 1 [] follows (by decide +kernel) (by (simp only [go_sem]); first | done | rfl) ?_ | refine wd_mix 0 [] follows (by decide +kernel) (by (simp only [go_sem]); first | done | rfl) ?_ | fail); (simp only [go_sem, hb, e1])) | fail)
      (refine hR _ (ret_at [] (by (simp only [go_sem]); first | done | rfl) (by (simp only [go_sem]); first | done | rfl) ⟨?_, rfl⟩))
      unfold insF; rw [hasN_of_take n hk1 e1]
  · have hk1 : l.take k = l := List.take_of_length_le (by have := of_decide_eq_false hb; omega)
    rw [hk1] at hno hd hacc
    have hcap : (acc.length + 1) * 8 ≤ 140737488355328 := by omega
    cases d
    · repeat' (first | (first | (simp only [go_sem, hb, hcap]) | ((first | refine wd_split _ (fun hb => ?_) (fun hb => ?_) | refine wd_nwant _ (fun hb => ?_) (fun hb => ?_) | refine wm_nwant _ (fun hb => ?_) (fun hb => ?_) | refine wd_want _ (fun hb => ?_) (fun hb => ?_) | refine wm_want _ (fun hb => ?_) (fun hb => ?_) | refine wt_nwant _ (fun hb => ?_) (fun hb => ?_) | refine wt_want _ (fun hb => ?_) (fun hb => ?_)) <;> (simp only [go_sem, hb, hb, hcap])) | (refine wm_done ?_; (simp only [go_sem, hb, hcap])) | (refine wt_done ?_; (simp only [go_sem, hb, hcap])) | (refine wg_run ?_; (simp only [go_sem, hb, hcap])) | (refine wt_fork (by (simp only [go_sem]); first | done | rfl) ?_ ?_ <;> (simp only [go_sem, hb, hcap]))) | ((first | refine wd_mix 6 [] follows (by decide +kernel) (by (simp only [go_sem]); first | done | rfl) ?_ | refine wd_mix 5 [] follows (by decide +kernel) (by (simp only [go_sem]); first | done | rfl) ?_ | refine wd_mix 4 [] follows (by decide +kernel) (by (simp only [go_sem]); first | done | rfl) ?_ | refine wd_mix 3 [] follows (by decide +kernel) (by (simp only [go_sem]); first | done | rfl) ?_ | refine wd_mix 2 [] follows (by decide +kernel) (by (simp only [go_sem]); first | done | rfl) ?_ | refine wd_mix 1 [] follows (by decide +kernel) (by (simp only [go_sem]); first | done | rfl) ?_ | refine wd_mix 0 [] follows (by decide +kernel) (by (simp only [go_sem]); first | done | rfl) ?_ | fail); (simp only [go_sem, hb, hcap])) | fail)
      (refine hR _ (ret_at [] (by (simp only [go_sem]); first | done | rfl) (by (simp only [go_sem]); first | done | rfl) ⟨?_, rfl⟩))
      unfold insF; rw [hno]; simp only []; rw [ins_none n l hd.symm, hacc]; unfold insP; rw [← hd]; simp only [intR_append, intR]
    · repeat' (first | (first | (simp only [go_sem, hb, hcap]) | ((first | refine wd_split _ (fun hb => ?_) (fun hb => ?_) | refine wd_nwant _ (fun hb => ?_) (fun hb => ?_) | refine wm_nwant _ (fun hb => ?_) (fun hb => ?_) | refine wd_want _ (fun hb => ?_) (fun hb => ?_) | refine wm_want _ (fun hb => ?_) (fun hb => ?_) | refine wt_nwant _ (fun hb => ?_) (fun hb => ?_) | refine wt_want _ (fun hb => ?_) (fun hb => ?_)) <;> (simp only [go_sem, hb, hb, hcap])) | (refine wm_done ?_; (simp only [go_sem, hb, hcap])) | (refine wt_done ?_; (simp only [go_sem, hb, hcap])) | (refine wg_run ?_; (simp only [go_sem, hb, hcap])) | (refine wt_fork (by (simp only [go_sem]); first | done | rfl) ?_ ?_ <;> (simp only [go_sem, hb, hcap]))) | ((first | refine wd_mix 6 [] follows (by decide +kernel) (by (simp only [go_sem]); first | done | rfl) ?_ | refine wd_mix 5 [] follows (by decide +kernel) (by (simp only [go_sem]); first | done | rfl) ?_ | refine wd_mix 4 [] follows (by decide +kernel) (by (simp only [go_sem]); first | done | rfl) ?_ | refine wd_mix 3 [] follows (by decide +kernel) (by (simp only [go_sem]); first | done | rfl) ?_ | refine wd_mix 2 [] follows (by decide +kernel) (by (simp only [go_sem]); first | done | rfl) ?_ | refine wd_mix 1 [] follows (by decide +kernel) (by (simp only [go_sem]); first | done | rfl) ?_ | refine wd_mix 0 [] follows (by decide +kernel) (by (simp only [go_sem]); first | done | rfl) ?_ | fail); (simp only [go_sem, hb, hcap])) | fail)
      (refine hR _ (ret_at [] (by (simp only [go_sem]); first | done | rfl) (by (simp only [go_sem]); first | done | rfl) ⟨?_, rfl⟩))
      unfold insF insP at *; rw [hno]; rw [← hd] at hacc; simp only [] at hacc ⊢; rw [hacc]
end Go.Proofs.Ytfgjiamolknicaa
/- Types as shadows. -/
namespace Go.Proofs.Sh
open Go.RowKit Go.Proofs.Grad

mutual
def tyC : Ty → List C
  | .mk k l => [.sc (.int .i64 k), .sl (tyR l)]
def tyR : List Ty → List (List C)
  | [] => []
  | t :: l => tyC t :: tyR l
end
theorem tyC_eq (t : Ty) : tyC t = [.sc (.int .i64 t.kind), .sl (tyR t.kids)] := by cases t; rfl
@[go_sem] theorem tyC_length (t : Ty) : (tyC t).length = 2 := by rw [tyC_eq]; rfl
@[go_sem] theorem tyC_0 (t : Ty) : (tyC t)[0]? = some (.sc (.int .i64 t.kind)) := by rw [tyC_eq]; rfl
@[go_sem] theorem tyC_1 (t : Ty) : (tyC t)[1]? = some (.sl (tyR t.kids)) := by rw [tyC_eq]; rfl
@[go_sem] theorem tyC_take (t : Ty) : (tyC t).take 2 = tyC t := by rw [tyC_eq]; rfl
@[go_sem] theorem tyC_drop2 (t : Ty) : (tyC t).drop 2 = [] := by rw [tyC_eq]; rfl
@[go_sem] theorem tyC_tree (t : Ty) : (tyC t).all C.tree = true := by rw [tyC_eq]; rfl
@[go_sem] theorem tyC_treeL (t : Ty) : treeL (tyC t) = true := by rw [tyC_eq]; rfl
@[go_sem] theorem tyR_length (l : List Ty) : (tyR l).length = l.length := by
  induction l with
  | nil => rfl
  | cons t l ih => simp [tyR, ih]
theorem tyR_get (l : List Ty) (i : Nat) : (tyR l)[i]? = (l[i]?).map tyC := by
  induction l generalizing i with
  | nil => simp [tyR]
  | cons t l ih => cases i <;> simp [tyR, ih]
@[go_sem] theorem tyC_splice1 (t : Ty) (x : C) : splice (tyC t) 1 [x] = [.sc (.int .i64 t.kind), x] := by rw [tyC_eq]; rfl
@[go_sem] theorem tyC_splice0 (t : Ty) (x : C) : splice (tyC t) 0 [x] = [x, .sl (tyR t.kids)] := by rw [tyC_eq]; rfl
@[go_sem] theorem tyC_splice2 (t : Ty) (x y : C) : splice (tyC t) 0 [x, y] = [x, y] := by rw [tyC_eq]; rfl
/-- the k-th one of a list of types -/
def kid (l : List Ty) (k : Nat) : Ty := l.getD k (.mk 0 [])
theorem kid_eq {l : List Ty} {k : Nat} (h : k < l.length) : kid l k = l[k] := by simp [kid, h]
@[go_sem] theorem tyR_at (l : List Ty) (i : Nat) : (tyR l)[i]? = match decide ((i : Int) < (l.length : Int)) with | true => some (tyC (kid l i)) | false => none := by
  rw [tyR_get]
  by_cases h : i < l.length
  · have h' : (i : Int) < (l.length : Int) := by omega
    simp [h, h', kid]
  · have h' : ¬ (i : Int) < (l.length : Int) := by omega
    simp [h, h']
theorem kid_lt {t : Ty} {k : Nat} (h : k < t.kids.length) : (kid t.kids k).size < t.size := by
  rw [kid_eq h]
  have := Ty.sizes_mem (List.getElem_mem h)
  cases t; simp only [Ty.size, Ty.kids] at *; omega
theorem take_kid {l : List Ty} {k : Nat} (h : k < l.length) : l.take (k + 1) = l.take k ++ [kid l k] := by
  rw [kid_eq h, List.take_succ_eq_append_getElem h]
theorem drop_kid {l : List Ty} {k : Nat} (h : k < l.length) : l.drop k = kid l k :: l.drop (k + 1) := by
  rw [kid_eq h, List.drop_eq_getElem_cons h]
theorem tyR_take {l : List Ty} {k : Nat} (h : k < l.length) : tyR (l.take (k + 1)) = tyR (l.take k) ++ [tyC (kid l k)] := by
  rw [take_kid h]
  induction l.take k with
  | nil => rfl
  | cons x m ih => simp only [List.cons_append, tyR, ih]
@[go_sem] theorem tyR_tree (l : List Ty) : treeRows (tyR l) = true := by
  induction l with
  | nil => rfl
  | cons t l ih =>
    simp only [treeRows, tyR, List.all_cons, tyC_treeL, Bool.true_and]
    exact ih
@[go_sem] theorem tyR_len (l : List Ty) : rowsLen 2 (tyR l) = true := by
  induction l with
  | nil => rfl
  | cons t l ih =>
    simp only [rowsLen, tyR, List.all_cons, tyC_length, beq_self_eq_true, Bool.true_and]
    exact ih
theorem tyR_append (l m : List Ty) : tyR (l ++ m) = tyR l ++ tyR m := by
  induction l with
  | nil => rfl
  | cons t l ih => simp [tyR, ih]
attribute [go_sem] tyR
end Go.Proofs.Sh
/- Relations on types that are valid. No program, no world. -/
namespace Go.Proofs.Grad
open Classical in
/-- the relation, where both types are valid -/
noncomputable def onT (R : T → T → Bool) (a b : Ty) : Bool := decide (∃ x y : T, x.ty = a ∧ y.ty = b ∧ x.depth ≤ 4 ∧ y.depth ≤ 4 ∧ R x y = true)

open Classical in
theorem onT_ty (R : T → T → Bool) {x y : T} (hx : x.depth ≤ 4) (hy : y.depth ≤ 4) : onT R x.ty y.ty = R x y := by
  unfold onT
  rw [Bool.eq_iff_iff, decide_eq_true_iff]
  constructor
  · rintro ⟨x', y', h1, h2, _, _, h⟩
    rw [← T.ty_inj _ _ h1, ← T.ty_inj _ _ h2]; exact h
  · intro h; exact ⟨x, y, rfl, rfl, hx, hy, h⟩
open Classical in
theorem onT_off (R : T → T → Bool) {a b : Ty} (h : (a.valid && b.valid) = false) : onT R a b = false := by
  unfold onT
  rw [decide_eq_false_iff_not]
  rintro ⟨x, y, rfl, rfl, hx, hy, _⟩
  simp [Ty.valid, T.shape_ty, hx, hy] at h
theorem onT_and (R : T → T → Bool) (a b : Ty) : onT R a b = (a.valid && (b.valid && onT R a b)) := by
  cases ha : a.valid
  · rw [onT_off R (by simp [ha])]; rfl
  · cases hb : b.valid
    · rw [onT_off R (by simp [hb])]; rfl
    · rfl
end Go.Proofs.Grad
/- Terms as trees, their checks and their forms. No program, no world. -/
namespace Go.Proofs.Grad

/-- terms as they come -/
inductive Tm where
  | mk (kind : Int) (name : ByteArray) (num : Int) (type frm : Ty) (label : Int) (kids : List Tm)
def Tm.kind : Tm → Int | .mk k _ _ _ _ _ _ => k
def Tm.name : Tm → ByteArray | .mk _ n _ _ _ _ _ => n
def Tm.num : Tm → Int | .mk _ _ n _ _ _ _ => n
def Tm.type : Tm → Ty | .mk _ _ _ t _ _ _ => t
def Tm.frm : Tm → Ty | .mk _ _ _ _ t _ _ => t
def Tm.label : Tm → Int | .mk _ _ _ _ _ l _ => l
def Tm.kids : Tm → List Tm | .mk _ _ _ _ _ _ l => l
theorem Tm.eta (t : Tm) : t = .mk t.kind t.name t.num t.type t.frm t.label t.kids := by cases t; rfl
mutual
def Tm.size : Tm → Nat
  | .mk _ _ _ t f _ l => 1 + (t.size + f.size + Tm.sizes l)
def Tm.sizes : List Tm → Nat
  | [] => 0
  | t :: l => t.size + Tm.sizes l
end
mutual
def Tm.nodes : Tm → Nat
  | .mk _ _ _ _ _ _ l => 1 + Tm.nodess l
def Tm.nodess : List Tm → Nat
  | [] => 0
  | t :: l => t.nodes + Tm.nodess l
end
mutual
theorem Tm.nodes_le : ∀ t : Tm, t.nodes ≤ t.size
  | .mk _ _ _ _ _ _ l => by have := Tm.nodess_le l; simp only [Tm.nodes, Tm.size]; omega
theorem Tm.nodess_le : ∀ l : List Tm, Tm.nodess l ≤ Tm.sizes l
  | [] => Nat.le_refl _
  | t :: l => by have := Tm.nodes_le t; have := Tm.nodess_le l; simp only [Tm.nodess, Tm.sizes]; omega
end
theorem Tm.nodes_eq (t : Tm) : t.nodes = 1 + Tm.nodess t.kids := by cases t; simp only [Tm.nodes, Tm.kids]
theorem bytes_ext {a b : ByteArray} (h : a.toList = b.toList) : a = b := by
  rw [Go.ByteArray.toList_eq, Go.ByteArray.toList_eq] at h
  obtain ⟨⟨a⟩⟩ := a; obtain ⟨⟨b⟩⟩ := b
  simp at h; subst h; rfl
mutual
def Tm.same : Tm → Tm → Bool
  | .mk k n m t f l a, .mk k' n' m' t' f' l' b => k == k' && (n.toList == n'.toList && (m == m' && (t.same t' && (f.same f' && (l == l' && Tm.sames a b)))))
def Tm.sames : List Tm → List Tm → Bool
  | [], [] => true
  | a :: l, b :: m => a.same b && Tm.sames l m
  | _, _ => false
end
mutual
theorem Tm.same_iff : ∀ a b : Tm, a.same b = true ↔ a = b
  | .mk k n m t f l a, .mk k' n' m' t' f' l' b => by
    simp only [Tm.same, Bool.and_eq_true, beq_iff_eq, Ty.same_iff, Tm.sames_iff a b, Tm.mk.injEq]
    exact ⟨fun ⟨h1, h2, h3, h4, h5, h6, h7⟩ => ⟨h1, bytes_ext h2, h3, h4, h5, h6, h7⟩, fun ⟨h1, h2, h3, h4, h5, h6, h7⟩ => ⟨h1, by rw [h2], h3, h4, h5, h6, h7⟩⟩
theorem Tm.sames_iff : ∀ a b : List Tm, Tm.sames a b = true ↔ a = b
  | [], [] => by simp [Tm.sames]
  | [], _ :: _ => by simp [Tm.sames]
  | _ :: _, [] => by simp [Tm.sames]
  | a :: l, b :: m => by simp [Tm.sames, Tm.same_iff a b, Tm.sames_iff l m]
end
theorem Tm.same_refl (a : Tm) : a.same a = true := (Tm.same_iff a a).2 rfl

/-! ### checks of a node -/
/-- a name -/
def nmOk (s : ByteArray) : Bool := s.size == 1 && (match s[0]? with | some b => decide (97 ≤ (b.toNat : Int)) && decide ((b.toNat : Int) ≤ 122) | none => false)
def nm (b : UInt8) : ByteArray := ⟨#[b]⟩
def nmB (b : UInt8) : Bool := decide (97 ≤ (b.toNat : Int)) && decide ((b.toNat : Int) ≤ 122)
theorem nmOk_nm (b : UInt8) : nmOk (nm b) = nmB b := rfl
theorem nm_size (b : UInt8) : (nm b).size = 1 := rfl
theorem bs_empty_size : ByteArray.empty.size = 0 := rfl
theorem size_mk (l : Array UInt8) : (ByteArray.mk l).size = l.size := rfl
theorem nmOk_some {s : ByteArray} (h : nmOk s = true) : ∃ b, s = nm b ∧ nmB b = true := by
  obtain ⟨⟨l⟩⟩ := s
  match l, h with
  | [b], h => exact ⟨b, rfl, by rw [← nmOk_nm]; exact h⟩
  | [], h => rw [nmOk, size_mk] at h; simp at h
  | _ :: _ :: _, h => rw [nmOk, size_mk] at h; simp at h
/-- how many operands -/
def opN (k : Int) : Int := if k = 1 then 0 else if k = 2 then 0 else if k = 3 then 0 else if k = 4 then 0 else if k = 5 then 1 else if k = 6 then 2 else if k = 7 then 2 else if k = 8 then 2 else if k = 9 then 3 else if k = 10 then 2 else if k = 11 then 1 else if k = 12 then 1 else if k = 13 then 1 else if k = 14 then 1 else -1
def noTy : Ty := .mk 0 []
def Ty.isNo (t : Ty) : Bool := t.kind == 0 && t.kids.length == 0
theorem Ty.isNo_iff {t : Ty} (h : t.isNo = true) : t = noTy := by
  obtain ⟨k, l⟩ := t
  simp only [Ty.isNo, Ty.kind, Ty.kids, Bool.and_eq_true, beq_iff_eq] at h
  rw [h.1, List.eq_nil_of_length_eq_zero h.2]; rfl
noncomputable def Tm.nodeOk (t : Tm) : Bool :=
  opN t.kind == (t.kids.length : Int) &&
  ((if t.kind = 1 ∨ t.kind = 5 then nmOk t.name else t.name.size == 0) &&
  ((decide (0 ≤ t.num) && decide (t.num ≤ if t.kind = 2 then 999 else 0)) &&
  ((if t.kind = 5 ∨ t.kind = 13 ∨ t.kind = 14 then t.type.valid else t.type.isNo) &&
  (if t.kind = 14 then onT T.cons t.frm t.type && lab t.label else t.frm.isNo && t.label == 0))))
noncomputable def Tm.shape (no : Int) : Nat → Tm → Bool
  | 0, _ => false
  | d + 1, t => t.kind != no && (t.nodeOk && t.kids.all (Tm.shape no d))
noncomputable def Tm.termV (t : Tm) : Bool := t.shape 14 12 && decide (t.nodes ≤ 30)
noncomputable def Tm.castV (t : Tm) : Bool := t.shape 13 40 && decide (t.nodes ≤ 200)

/-! ### forms -/
inductive E where
  | var (x : UInt8) | num (n : Int) | tru | fls | lam (x : UInt8) (t : T) (e : E) | app (a b : E) | add (a b : E) | less (a b : E) | ite (a b c : E) | pair (a b : E) | fst (a : E) | snd (a : E) | asc (t : T) (a : E) | cast (s t : T) (l : Int) (a : E)
/-- a node with no name, no number, no types, no label -/
def nd (k : Int) (l : List Tm) : Tm := .mk k ByteArray.empty 0 noTy noTy 0 l
def E.tm : E → Tm
  | .var x => .mk 1 (nm x) 0 noTy noTy 0 []
  | .num n => .mk 2 ByteArray.empty n noTy noTy 0 []
  | .tru => nd 3 []
  | .fls => nd 4 []
  | .lam x t e => .mk 5 (nm x) 0 t.ty noTy 0 [e.tm]
  | .app a b => nd 6 [a.tm, b.tm]
  | .add a b => nd 7 [a.tm, b.tm]
  | .less a b => nd 8 [a.tm, b.tm]
  | .ite a b c => nd 9 [a.tm, b.tm, c.tm]
  | .pair a b => nd 10 [a.tm, b.tm]
  | .fst a => nd 11 [a.tm]
  | .snd a => nd 12 [a.tm]
  | .asc t a => .mk 13 ByteArray.empty 0 t.ty noTy 0 [a.tm]
  | .cast s t l a => .mk 14 ByteArray.empty 0 t.ty s.ty l [a.tm]
def E.kids : E → List E
  | .var _ | .num _ | .tru | .fls => []
  | .lam _ _ a | .fst a | .snd a | .asc _ a | .cast _ _ _ a => [a]
  | .app a b | .add a b | .less a b | .pair a b => [a, b]
  | .ite a b c => [a, b, c]
def E.wf : E → Bool
  | .var x => nmB x
  | .num n => decide (0 ≤ n) && decide (n ≤ 999)
  | .tru | .fls => true
  | .lam x t a => nmB x && (decide (t.depth ≤ 4) && a.wf)
  | .app a b | .add a b | .less a b | .pair a b => a.wf && b.wf
  | .ite a b c => a.wf && (b.wf && c.wf)
  | .fst a | .snd a => a.wf
  | .asc t a => decide (t.depth ≤ 4) && a.wf
  | .cast s t l a => (decide (s.depth ≤ 4) && decide (t.depth ≤ 4)) && (s.cons t && (lab l && a.wf))
/-- no casts; no annotations -/
def E.noC : E → Bool
  | .var _ | .num _ | .tru | .fls => true
  | .lam _ _ a | .fst a | .snd a | .asc _ a => a.noC
  | .app a b | .add a b | .less a b | .pair a b => a.noC && b.noC
  | .ite a b c => a.noC && (b.noC && c.noC)
  | .cast _ _ _ _ => false
def E.noA : E → Bool
  | .var _ | .num _ | .tru | .fls => true
  | .lam _ _ a | .fst a | .snd a | .cast _ _ _ a => a.noA
  | .app a b | .add a b | .less a b | .pair a b => a.noA && b.noA
  | .ite a b c => a.noA && (b.noA && c.noA)
  | .asc _ _ => false
def E.depth : E → Nat
  | .var _ | .num _ | .tru | .fls => 1
  | .lam _ _ a | .fst a | .snd a | .asc _ a | .cast _ _ _ a => a.depth + 1
  | .app a b | .add a b | .less a b | .pair a b => max a.depth b.depth + 1
  | .ite a b c => max a.depth (max b.depth c.depth) + 1
def E.nodes : E → Nat
  | .var _ | .num _ | .tru | .fls => 1
  | .lam _ _ a | .fst a | .snd a | .asc _ a | .cast _ _ _ a => 1 + a.nodes
  | .app a b | .add a b | .less a b | .pair a b => 1 + (a.nodes + b.nodes)
  | .ite a b c => 1 + (a.nodes + (b.nodes + c.nodes))
theorem E.nodes_pos (e : E) : 0 < e.nodes := by cases e <;> simp only [E.nodes] <;> omega
theorem E.depth_nodes (e : E) : e.depth ≤ e.nodes := by
  induction e <;> simp only [E.depth, E.nodes] <;> omega
theorem E.tm_nodes (e : E) : e.tm.nodes = e.nodes := by
  induction e <;> simp only [E.tm, nd, Tm.nodes, Tm.nodess, E.nodes, *] <;> omega
theorem noTy_isNo : noTy.isNo = true := rfl
theorem noTy_eq : (noTy : Ty) = .mk 0 [] := rfl
theorem onT_cons_ty (x y : T) : onT T.cons x.ty y.ty = (decide (x.depth ≤ 4) && (decide (y.depth ≤ 4) && x.cons y)) := by
  have h : ∀ t : T, t.ty.valid = decide (t.depth ≤ 4) := fun t => T.shape_ty t 4
  by_cases hx : x.depth ≤ 4
  · by_cases hy : y.depth ≤ 4
    · rw [onT_ty _ hx hy]; simp [hx, hy]
    · rw [onT_off _ (by simp [h, hy])]; simp [hy]
  · rw [onT_off _ (by simp [h, hx])]; simp [hx]
theorem T.valid_ty (t : T) : t.ty.valid = decide (t.depth ≤ 4) := T.shape_ty t 4
theorem E.nodeOk_tm (e : E) : e.tm.nodeOk = (match e with
  | .var x => nmB x | .num n => decide (0 ≤ n) && decide (n ≤ 999) | .lam x t _ => nmB x && decide (t.depth ≤ 4) | .asc t _ => decide (t.depth ≤ 4)
  | .cast s t l _ => (decide (s.depth ≤ 4) && decide (t.depth ≤ 4)) && (s.cons t && lab l) | _ => true) := by
  cases e <;> simp [Tm.nodeOk, E.tm, nd, Tm.kind, Tm.name, Tm.num, Tm.type, Tm.frm, Tm.label, Tm.kids, opN, nmOk_nm, noTy_isNo, T.valid_ty, onT_cons_ty, bs_empty_size, -ByteArray.size_data]
  all_goals (try grind)
end Go.Proofs.Grad
/- Terms as shadows. -/
namespace Go.Proofs.Sh
open Go.RowKit Go.Proofs.Grad

mutual
def teC : Tm → List C
  | .mk x0 x1 x2 x3 x4 x5 x6 => [.sc (.int .i64 (x0)), .sc (.string (x1)), .sc (.int .i64 (x2)), .sc (.int .i64 (x3).kind), .sl (tyR (x3).kids), .sc (.int .i64 (x4).kind), .sl (tyR (x4).kids), .sc (.int .i64 (x5)), .sl (teR (x6))]
def teR : List Tm → List (List C)
  | [] => []
  | t :: l => teC t :: teR l
end
theorem teC_eq (t : Tm) : teC t = [.sc (.int .i64 (t.kind)), .sc (.string (t.name)), .sc (.int .i64 (t.num)), .sc (.int .i64 (t.type).kind), .sl (tyR (t.type).kids), .sc (.int .i64 (t.frm).kind), .sl (tyR (t.frm).kids), .sc (.int .i64 (t.label)), .sl (teR (t.kids))] := by cases t; rfl
@[go_sem] theorem teC_length (t : Tm) : (teC t).length = 9 := by rw [teC_eq]; rfl
@[go_sem] theorem teC_take (t : Tm) : (teC t).take 9 = teC t := by rw [teC_eq]; rfl
@[go_sem] theorem teC_drop (t : Tm) : (teC t).drop 0 = teC t := rfl
@[go_sem] theorem teC_dropn (t : Tm) : (teC t).drop 9 = [] := by rw [teC_eq]; rfl
@[go_sem] theorem teC_treeL (t : Tm) : treeL (teC t) = true := by rw [teC_eq]; rfl
@[go_sem] theorem teC_0 (t : Tm) : (teC t)[0]? = some (.sc (.int .i64 (t.kind))) := by rw [teC_eq]; rfl
@[go_sem] theorem teC_1 (t : Tm) : (teC t)[1]? = some (.sc (.string (t.name))) := by rw [teC_eq]; rfl
@[go_sem] theorem teC_2 (t : Tm) : (teC t)[2]? = some (.sc (.int .i64 (t.num))) := by rw [teC_eq]; rfl
@[go_sem] theorem teC_3 (t : Tm) : (teC t)[3]? = some (.sc (.int .i64 (t.type).kind)) := by rw [teC_eq]; rfl
@[go_sem] theorem teC_4 (t : Tm) : (teC t)[4]? = some (.sl (tyR (t.type).kids)) := by rw [teC_eq]; rfl
@[go_sem] theorem teC_dlen3 (t : Tm) : ((teC t).drop 3).length = 6 := by rw [teC_eq]; rfl
@[go_sem] theorem teC_part3 (t : Tm) : ((teC t).drop 3).take 2 = tyC t.type := by rw [teC_eq, tyC_eq]; rfl
@[go_sem] theorem teC_5 (t : Tm) : (teC t)[5]? = some (.sc (.int .i64 (t.frm).kind)) := by rw [teC_eq]; rfl
@[go_sem] theorem teC_6 (t : Tm) : (teC t)[6]? = some (.sl (tyR (t.frm).kids)) := by rw [teC_eq]; rfl
@[go_sem] theorem teC_dlen5 (t : Tm) : ((teC t).drop 5).length = 4 := by rw [teC_eq]; rfl
@[go_sem] theorem teC_part5 (t : Tm) : ((teC t).drop 5).take 2 = tyC t.frm := by rw [teC_eq, tyC_eq]; rfl
@[go_sem] theorem teC_7 (t : Tm) : (teC t)[7]? = some (.sc (.int .i64 (t.label))) := by rw [teC_eq]; rfl
@[go_sem] theorem teC_8 (t : Tm) : (teC t)[8]? = some (.sl (teR (t.kids))) := by rw [teC_eq]; rfl
@[go_sem] theorem tyC_app (t : Ty) (l : List C) : tyC t ++ l = .sc (.int .i64 t.kind) :: .sl (tyR t.kids) :: l := by rw [tyC_eq]; rfl
@[go_sem] theorem teC_splice0 (t : Tm) (x : C) : splice (teC t) 0 [x] = [x, .sc (.string (t.name)), .sc (.int .i64 (t.num)), .sc (.int .i64 (t.type).kind), .sl (tyR (t.type).kids), .sc (.int .i64 (t.frm).kind), .sl (tyR (t.frm).kids), .sc (.int .i64 (t.label)), .sl (teR (t.kids))] := by rw [teC_eq]; rfl
@[go_sem] theorem teC_splice1 (t : Tm) (x : C) : splice (teC t) 1 [x] = [.sc (.int .i64 (t.kind)), x, .sc (.int .i64 (t.num)), .sc (.int .i64 (t.type).kind), .sl (tyR (t.type).kids), .sc (.int .i64 (t.frm).kind), .sl (tyR (t.frm).kids), .sc (.int .i64 (t.label)), .sl (teR (t.kids))] := by rw [teC_eq]; rfl
@[go_sem] theorem teC_splice2 (t : Tm) (x : C) : splice (teC t) 2 [x] = [.sc (.int .i64 (t.kind)), .sc (.string (t.name)), x, .sc (.int .i64 (t.type).kind), .sl (tyR (t.type).kids), .sc (.int .i64 (t.frm).kind), .sl (tyR (t.frm).kids), .sc (.int .i64 (t.label)), .sl (teR (t.kids))] := by rw [teC_eq]; rfl
@[go_sem] theorem teC_splice3 (t : Tm) (x : C) : splice (teC t) 3 [x] = [.sc (.int .i64 (t.kind)), .sc (.string (t.name)), .sc (.int .i64 (t.num)), x, .sl (tyR (t.type).kids), .sc (.int .i64 (t.frm).kind), .sl (tyR (t.frm).kids), .sc (.int .i64 (t.label)), .sl (teR (t.kids))] := by rw [teC_eq]; rfl
@[go_sem] theorem teC_splice4 (t : Tm) (x : C) : splice (teC t) 4 [x] = [.sc (.int .i64 (t.kind)), .sc (.string (t.name)), .sc (.int .i64 (t.num)), .sc (.int .i64 (t.type).kind), x, .sc (.int .i64 (t.frm).kind), .sl (tyR (t.frm).kids), .sc (.int .i64 (t.label)), .sl (teR (t.kids))] := by rw [teC_eq]; rfl
@[go_sem] theorem teC_splice5 (t : Tm) (x : C) : splice (teC t) 5 [x] = [.sc (.int .i64 (t.kind)), .sc (.string (t.name)), .sc (.int .i64 (t.num)), .sc (.int .i64 (t.type).kind), .sl (tyR (t.type).kids), x, .sl (tyR (t.frm).kids), .sc (.int .i64 (t.label)), .sl (teR (t.kids))] := by rw [teC_eq]; rfl
@[go_sem] theorem teC_splice6 (t : Tm) (x : C) : splice (teC t) 6 [x] = [.sc (.int .i64 (t.kind)), .sc (.string (t.name)), .sc (.int .i64 (t.num)), .sc (.int .i64 (t.type).kind), .sl (tyR (t.type).kids), .sc (.int .i64 (t.frm).kind), x, .sc (.int .i64 (t.label)), .sl (teR (t.kids))] := by rw [teC_eq]; rfl
@[go_sem] theorem teC_splice7 (t : Tm) (x : C) : splice (teC t) 7 [x] = [.sc (.int .i64 (t.kind)), .sc (.string (t.name)), .sc (.int .i64 (t.num)), .sc (.int .i64 (t.type).kind), .sl (tyR (t.type).kids), .sc (.int .i64 (t.frm).kind), .sl (tyR (t.frm).kids), x, .sl (teR (t.kids))] := by rw [teC_eq]; rfl
@[go_sem] theorem teC_splice8 (t : Tm) (x : C) : splice (teC t) 8 [x] = [.sc (.int .i64 (t.kind)), .sc (.string (t.name)), .sc (.int .i64 (t.num)), .sc (.int .i64 (t.type).kind), .sl (tyR (t.type).kids), .sc (.int .i64 (t.frm).kind), .sl (tyR (t.frm).kids), .sc (.int .i64 (t.label)), x] := by rw [teC_eq]; rfl
@[go_sem] theorem teC_splice3ty (t : Tm) (x y : C) : splice (teC t) 3 [x, y] = [.sc (.int .i64 (t.kind)), .sc (.string (t.name)), .sc (.int .i64 (t.num)), x, y, .sc (.int .i64 (t.frm).kind), .sl (tyR (t.frm).kids), .sc (.int .i64 (t.label)), .sl (teR (t.kids))] := by rw [teC_eq]; rfl
@[go_sem] theorem teC_splice3tyC (t : Tm) (u : Ty) : splice (teC t) 3 (tyC u) = teC (.mk t.kind t.name t.num u t.frm t.label t.kids) := by rw [teC_eq, tyC_eq]; rfl
@[go_sem] theorem teC_splice5ty (t : Tm) (x y : C) : splice (teC t) 5 [x, y] = [.sc (.int .i64 (t.kind)), .sc (.string (t.name)), .sc (.int .i64 (t.num)), .sc (.int .i64 (t.type).kind), .sl (tyR (t.type).kids), x, y, .sc (.int .i64 (t.label)), .sl (teR (t.kids))] := by rw [teC_eq]; rfl
@[go_sem] theorem teC_splice5tyC (t : Tm) (u : Ty) : splice (teC t) 5 (tyC u) = teC (.mk t.kind t.name t.num t.type u t.label t.kids) := by rw [teC_eq, tyC_eq]; rfl
@[go_sem] theorem teR_length (l : List Tm) : (teR l).length = l.length := by
  induction l with
  | nil => rfl
  | cons t l ih => simp [teR, ih]
theorem teR_get (l : List Tm) (i : Nat) : (teR l)[i]? = (l[i]?).map teC := by
  induction l generalizing i with
  | nil => simp [teR]
  | cons t l ih => cases i <;> simp [teR, ih]
/-- the k-th one -/
def teKid (l : List Tm) (k : Nat) : Tm := l.getD k (.mk 0 ByteArray.empty 0 (.mk 0 []) (.mk 0 []) 0 [])
theorem teKid_eq {l : List Tm} {k : Nat} (h : k < l.length) : teKid l k = l[k] := by simp [teKid, h]
@[go_sem] theorem teR_at (l : List Tm) (i : Nat) : (teR l)[i]? = match decide ((i : Int) < (l.length : Int)) with | true => some (teC (teKid l i)) | false => none := by
  rw [teR_get]
  by_cases h : i < l.length
  · have h' : (i : Int) < (l.length : Int) := by omega
    simp [h, h', teKid]
  · have h' : ¬ (i : Int) < (l.length : Int) := by omega
    simp [h, h']
theorem tesizes_mem {t : Tm} {l : List Tm} (h : t ∈ l) : t.size ≤ Tm.sizes l := by
  induction l with
  | nil => simp at h
  | cons x l ih =>
    simp only [Tm.sizes]
    rcases List.mem_cons.1 h with rfl | h
    · omega
    · have := ih h; omega
theorem telen_sizes (l : List Tm) : l.length ≤ Tm.sizes l := by
  induction l with
  | nil => simp [Tm.sizes]
  | cons x l ih => cases x; simp only [Tm.sizes, Tm.size, List.length_cons]; omega
theorem tekids_lt (t : Tm) : Tm.sizes t.kids < t.size := by cases t; simp only [Tm.size, Tm.kids]; omega
theorem telen_lt (t : Tm) : t.kids.length < t.size := Nat.lt_of_le_of_lt (telen_sizes _) (tekids_lt t)
theorem teKid_lt {t : Tm} {k : Nat} (h : k < t.kids.length) : (teKid t.kids k).size < t.size := by
  rw [teKid_eq h]
  exact Nat.lt_of_le_of_lt (tesizes_mem (List.getElem_mem h)) (tekids_lt t)
theorem tetake_kid {l : List Tm} {k : Nat} (h : k < l.length) : l.take (k + 1) = l.take k ++ [teKid l k] := by
  rw [teKid_eq h, List.take_succ_eq_append_getElem h]
theorem tedrop_kid {l : List Tm} {k : Nat} (h : k < l.length) : l.drop k = teKid l k :: l.drop (k + 1) := by
  rw [teKid_eq h, List.drop_eq_getElem_cons h]
theorem teR_append (l m : List Tm) : teR (l ++ m) = teR l ++ teR m := by
  induction l with
  | nil => rfl
  | cons t l ih => simp [teR, ih]
theorem teR_take {l : List Tm} {k : Nat} (h : k < l.length) : teR (l.take (k + 1)) = teR (l.take k) ++ [teC (teKid l k)] := by
  rw [tetake_kid h, teR_append]; rfl
@[go_sem] theorem teR_tree (l : List Tm) : treeRows (teR l) = true := by
  induction l with
  | nil => rfl
  | cons t l ih => simp only [teR, treeRows_cons, teC_treeL, Bool.true_and]; exact ih
@[go_sem] theorem teR_len (l : List Tm) : rowsLen 9 (teR l) = true := by
  induction l with
  | nil => rfl
  | cons t l ih => simp only [teR, rowsLen_cons, teC_length, beq_self_eq_true, Bool.true_and]; exact ih
attribute [go_sem] teR
@[go_sem] theorem tekind_mk (x0 : Int) (x1 : ByteArray) (x2 : Int) (x3 : Ty) (x4 : Ty) (x5 : Int) (x6 : List Tm) : (Tm.mk x0 x1 x2 x3 x4 x5 x6).kind = x0 := rfl
@[go_sem] theorem tename_mk (x0 : Int) (x1 : ByteArray) (x2 : Int) (x3 : Ty) (x4 : Ty) (x5 : Int) (x6 : List Tm) : (Tm.mk x0 x1 x2 x3 x4 x5 x6).name = x1 := rfl
@[go_sem] theorem tenum_mk (x0 : Int) (x1 : ByteArray) (x2 : Int) (x3 : Ty) (x4 : Ty) (x5 : Int) (x6 : List Tm) : (Tm.mk x0 x1 x2 x3 x4 x5 x6).num = x2 := rfl
@[go_sem] theorem tetype_mk (x0 : Int) (x1 : ByteArray) (x2 : Int) (x3 : Ty) (x4 : Ty) (x5 : Int) (x6 : List Tm) : (Tm.mk x0 x1 x2 x3 x4 x5 x6).type = x3 := rfl
@[go_sem] theorem tefrm_mk (x0 : Int) (x1 : ByteArray) (x2 : Int) (x3 : Ty) (x4 : Ty) (x5 : Int) (x6 : List Tm) : (Tm.mk x0 x1 x2 x3 x4 x5 x6).frm = x4 := rfl
@[go_sem] theorem telabel_mk (x0 : Int) (x1 : ByteArray) (x2 : Int) (x3 : Ty) (x4 : Ty) (x5 : Int) (x6 : List Tm) : (Tm.mk x0 x1 x2 x3 x4 x5 x6).label = x5 := rfl
@[go_sem] theorem tekids_mk (x0 : Int) (x1 : ByteArray) (x2 : Int) (x3 : Ty) (x4 : Ty) (x5 : Int) (x6 : List Tm) : (Tm.mk x0 x1 x2 x3 x4 x5 x6).kids = x6 := rfl
end Go.Proofs.Sh
/- Terms: equality and search of lists, on shadows. -/
namespace Go.Proofs.Sh
open Go.Proofs.Grad
def teall2 (f : Tm → Tm → Bool) : List Tm → List Tm → Bool
  | [], [] => true
  | a :: l, b :: m => f a b && teall2 f l m
  | _, _ => false
theorem teall2_kid {f : Tm → Tm → Bool} {a b : List Tm} {i : Nat} (ha : i < a.length) (hb : i < b.length) : teall2 f (a.drop i) (b.drop i) = (f (teKid a i) (teKid b i) && teall2 f (a.drop (i + 1)) (b.drop (i + 1))) := by
  rw [tedrop_kid ha, tedrop_kid hb]; rfl
theorem teall2_end {f : Tm → Tm → Bool} {a b : List Tm} {i : Nat} (ha : ¬ i < a.length) (hb : a.length = b.length) : teall2 f (a.drop i) (b.drop i) = true := by
  rw [List.drop_eq_nil_of_le (by omega), List.drop_eq_nil_of_le (by omega)]; rfl
theorem teall2_len {f : Tm → Tm → Bool} : ∀ {a b : List Tm}, a.length ≠ b.length → teall2 f a b = false
  | [], [], h => by simp at h
  | [], _ :: _, _ => rfl
  | _ :: _, [], _ => rfl
  | _ :: a, _ :: b, h => by simp only [teall2]; rw [teall2_len (by simpa using h)]; simp
theorem tesames_all2 : ∀ a b : List Tm, Tm.sames a b = teall2 Tm.same a b
  | [], [] => rfl
  | [], _ :: _ => rfl
  | _ :: _, [] => rfl
  | _ :: a, _ :: b => by simp only [Tm.sames, teall2, tesames_all2 a b]
/-- the index of the first one, -1 for none -/
def teidx (p : Tm → Bool) : Nat → List Tm → Int
  | _, [] => -1
  | k, t :: l => if p t then (k : Nat) else teidx p (k + 1) l
theorem teidx_any (p : Tm → Bool) : ∀ (l : List Tm) (k : Nat), decide (0 ≤ teidx p k l) = l.any p
  | [], k => by simp [teidx]
  | t :: l, k => by
    simp only [teidx, List.any_cons]
    split
    · rename_i h; simp [h]
    · rename_i h; rw [teidx_any p l (k + 1)]; simp [h]
end Go.Proofs.Sh
namespace Go.Proofs.Ytfgjiamolknicaa
open Go.RowKit Go.Proofs.Sh Go.Proofs.Grad
set_option maxRecDepth 100000
set_option maxHeartbeats 4000000
theorem teEqFunc (g : FuncId) (Q : Tm → Tm → Bool) (l m : List Tm) (hl : l.length < 4611686018427387904)
    (hg : ∀ k, k < l.length → k < m.length → AFn Try.prog g [.agg (teC (teKid l k)), .agg (teC (teKid m k))] (.one (.sc (.bool (Q (teKid l k) (teKid m k)))))) :
    AFn Try.prog 72 [.one (.sl (teR l)), .one (.sl (teR m)), .one (.fn g [])] (.one (.sc (.bool (teall2 Q l m)))) := by
  refine fn_in ?_; refine acl_in Try.func72 rfl isfn_72 (Nat.le_of_ble_eq_true rfl) (fun R hR => ?_); rw [Try.results72] at hR; refine wg_run ?_; (simp only [Try.f72, go_sem])
  repeat' (first | ((first | refine wd_split _ (fun hb => ?_) (fun hb => ?_) | refine wd_nwant _ (fun hb => ?_) (fun hb => ?_) | refine wm_nwant _ (fun hb => ?_) (fun hb => ?_) | refine wd_want _ (fun hb => ?_) (fun hb => ?_) | refine wm_want _ (fun hb => ?_) (fun hb => ?_) | refine wt_nwant _ (fun hb => ?_) (fun hb => ?_) | refine wt_want _ (fun hb => ?_) (fun hb => ?_)) <;> (simp only [go_sem, hb])) | (refine wm_done ?_; (simp only [go_sem])) | (refine wt_done ?_; (simp only [go_sem])) | (refine wg_run ?_; (simp only [go_sem])) | (refine wt_fork (by (simp only [go_sem]); first | done | rfl) ?_ ?_ <;> (simp only [go_sem])))
  · (refine hR _ (ret_at [] (by (simp only [go_sem]); first | done | rfl) (by (simp only [go_sem]); first | done | rfl) ⟨?_, rfl⟩))
    rw [teall2_len]
    intro h; simp [h] at hb
  · have hlm : l.length = m.length := by simp at hb; omega
    clear hb
    refine wd_for [0, 1, 2, 15, 16, 17] (fun k => [.one (.sl (teR l)), .one (.sl (teR m)), .one (.fn g []), .one (.sl (teR l)), .one (.sc (.int .i64 l.length)), .one (.sc (.int .i64 (k : Nat)))]) (fun k => [])
      (fun k => k ≤ l.length ∧ teall2 Q (l.drop k) (m.drop k) = teall2 Q l m) (fun k => l.length - k) 0 ⟨Nat.zero_le _, rfl⟩ (head_at [] (by (simp only [go_sem]); first | done | rfl) (by (simp only [go_sem]); first | done | rfl) ⟨rfl, rfl⟩) ?_
    rintro k ⟨hk, hs⟩ G hG
    refine wg_run ?_
    (simp only [go_sem])
    (first | refine wd_split _ (fun hb => ?_) (fun hb => ?_) | refine wd_nwant _ (fun hb => ?_) (fun hb => ?_) | refine wm_nwant _ (fun hb => ?_) (fun hb => ?_) | refine wd_want _ (fun hb => ?_) (fun hb => ?_) | refine wm_want _ (fun hb => ?_) (fun hb => ?_) | refine wt_nwant _ (fun hb => ?_) (fun hb => ?_) | refine wt_want _ (fun hb => ?_) (fun hb => ?_)) <;> (simp only [go_sem, hb])
    · have hk1 : k < l.length := by have := of_decide_eq_true hb; omega
      have hk2 : decide ((k : Int) < (m.length : Int)) = true := by simp; omega
      rw [teall2_kid hk1 (by omega)] at hs
      have hw1 := wrap_succ hk1 (by omega)
      (simp only [go_sem, hk2])
      (first | refine wd_fn (by (simp only [go_sem]); first | done | rfl) (hg k hk1 (by omega)) ?_ | refine wm_fn (by (simp only [go_sem]); first | done | rfl) (hg k hk1 (by omega)) (by (simp only [go_sem]); first | done | rfl) (by (simp only [go_sem]); first | done | rfl) ?_ | refine wt_fn (by (simp only [go_sem]); first | done | rfl) (hg k hk1 (by omega)) (by (simp only [go_sem]); first | done | rfl) (by (simp only [go_sem]); first | done | rfl) ?_); (simp only [go_sem])
      repeat' (first | (simp only [go_sem, hw1]) | ((first | refine wd_split _ (fun hb => ?_) (fun hb => ?_) | refine wd_nwant _ (fun hb => ?_) (fun hb => ?_) | refine wm_nwant _ (fun hb => ?_) (fun hb => ?_) | refine wd_want _ (fun hb => ?_) (fun hb => ?_) | refine wm_want _ (fun hb => ?_) (fun hb => ?_) | refine wt_nwant _ (fun hb => ?_) (fun hb => ?_) | refine wt_want _ (fun hb => ?_) (fun hb => ?_)) <;> (simp only [go_sem, hb, hw1])) | (refine wm_done ?_; (simp only [go_sem, hw1])) | (refine wt_done ?_; (simp only [go_sem, hw1])) | (refine wg_run ?_; (simp only [go_sem, hw1])) | (refine wt_fork (by (simp only [go_sem]); first | done | rfl) ?_ ?_ <;> (simp only [go_sem, hw1])))
      · exact hG (k + 1) _ _ ⟨by omega, by simpa [hb] using hs⟩ (by omega) (head_at [] (by (simp only [go_sem]); first | done | rfl) (by (simp only [go_sem]); first | done | rfl) ⟨rfl, rfl⟩)
      · (refine hR _ (ret_at [] (by (simp only [go_sem]); first | done | rfl) (by (simp only [go_sem]); first | done | rfl) ⟨?_, rfl⟩))
        simpa [hb] using hs
    · have hk1 : ¬ k < l.length := by have := of_decide_eq_false hb; omega
      rw [teall2_end hk1 hlm] at hs
      (refine hR _ (ret_at [] (by (simp only [go_sem]); first | done | rfl) (by (simp only [go_sem]); first | done | rfl) ⟨?_, rfl⟩))
      simpa using hs
theorem teIndexFunc0 (g : FuncId) (p : Tm → Bool) (l : List Tm) (hl : l.length < 4611686018427387904)
    (hg : ∀ k, k < l.length → ACl Try.prog g [.agg (teC (teKid l k))] [] (fun r H' => r = .one (.sc (.bool (p (teKid l k)))) ∧ H' = [])) :
    ACl Try.prog 186 [.one (.sl (teR l)), .one (.fn g [])] [] (fun r H' => r = .one (.sc (.int .i64 (teidx p 0 l))) ∧ H' = []) := by
  refine acl_in Try.func186 rfl isfn_186 (Nat.le_of_ble_eq_true rfl) (fun R hR => ?_); rw [Try.results186] at hR; refine wg_run ?_; (simp only [Try.f186, go_sem])
  refine wd_for [0, 1, 7, 8] (fun k => [.one (.sl (teR l)), .one (.fn g []), .one (.sc (.int .i64 l.length)), .one (.sc (.int .i64 (k : Nat)))]) (fun k => [])
      (fun k => k ≤ l.length ∧ teidx p k (l.drop k) = teidx p 0 l) (fun k => l.length - k) 0 ⟨Nat.zero_le _, rfl⟩ (head_at [] (by (simp only [go_sem]); first | done | rfl) (by (simp only [go_sem]); first | done | rfl) ⟨rfl, rfl⟩) ?_
  rintro k ⟨hk, hs⟩ G hG
  refine wg_run ?_
  (simp only [go_sem])
  (first | refine wd_split _ (fun hb => ?_) (fun hb => ?_) | refine wd_nwant _ (fun hb => ?_) (fun hb => ?_) | refine wm_nwant _ (fun hb => ?_) (fun hb => ?_) | refine wd_want _ (fun hb => ?_) (fun hb => ?_) | refine wm_want _ (fun hb => ?_) (fun hb => ?_) | refine wt_nwant _ (fun hb => ?_) (fun hb => ?_) | refine wt_want _ (fun hb => ?_) (fun hb => ?_)) <;> (simp only [go_sem, hb])
  · have hk1 : k < l.length := by have := of_decide_eq_true hb; omega
    rw [tedrop_kid hk1, teidx] at hs
    have hw1 := wrap_succ hk1 (by omega)
    (first | refine wd_cl [] (by (simp only [go_sem]); first | done | rfl) (hg k hk1) ?_ | refine wm_cl [] (by (simp only [go_sem]); first | done | rfl) (hg k hk1) (by (simp only [go_sem]); first | done | rfl) (by (simp only [go_sem]); first | done | rfl) ?_ | refine wt_cl [] (by (simp only [go_sem]); first | done | rfl) (hg k hk1) (by (simp only [go_sem]); first | done | rfl) (by (simp only [go_sem]); first | done | rfl) ?_); rintro _ _ ⟨rfl, rfl⟩; (simp only [go_sem])
    repeat' (first | (simp only [go_sem, hw1]) | ((first | refine wd_split _ (fun hb => ?_) (fun hb => ?_) | refine wd_nwant _ (fun hb => ?_) (fun hb => ?_) | refine wm_nwant _ (fun hb => ?_) (fun hb => ?_) | refine wd_want _ (fun hb => ?_) (fun hb => ?_) | refine wm_want _ (fun hb => ?_) (fun hb => ?_) | refine wt_nwant _ (fun hb => ?_) (fun hb => ?_) | refine wt_want _ (fun hb => ?_) (fun hb => ?_)) <;> (simp only [go_sem, hb, hw1])) | (refine wm_done ?_; (simp only [go_sem, hw1])) | (refine wt_done ?_; (simp only [go_sem, hw1])) | (refine wg_run ?_; (simp only [go_sem, hw1])) | (refine wt_fork (by (simp only [go_sem]); first | done | rfl) ?_ ?_ <;> (simp only [go_sem, hw1])))
    · (refine hR _ (ret_at [] (by (simp only [go_sem]); first | done | rfl) (by (simp only [go_sem]); first | done | rfl) ⟨?_, ?_⟩))
      · simpa [hb] using hs
      · rfl
    · exact hG (k + 1) _ _ ⟨by omega, by simpa [hb] using hs⟩ (by omega) (head_at [] (by (simp only [go_sem]); first | done | rfl) (by (simp only [go_sem]); first | done | rfl) ⟨rfl, rfl⟩)
  · have hk1 : ¬ k < l.length := by have := of_decide_eq_false hb; omega
    rw [List.drop_eq_nil_of_le (by omega), teidx] at hs
    (refine hR _ (ret_at [] (by (simp only [go_sem]); first | done | rfl) (by (simp only [go_sem]); first | done | rfl) ⟨?_, ?_⟩))
    · rw [← hs]
    · rfl
theorem teContainsFunc0 (g : FuncId) (p : Tm → Bool) (l : List Tm) (hl : l.length < 4611686018427387904)
    (hg : ∀ k, k < l.length → ACl Try.prog g [.agg (teC (teKid l k))] [] (fun r H' => r = .one (.sc (.bool (p (teKid l k)))) ∧ H' = [])) :
    ACl Try.prog 162 [.one (.sl (teR l)), .one (.fn g [])] [] (fun r H' => r = .one (.sc (.bool (l.any p))) ∧ H' = []) := by
  have hi := teIndexFunc0 g p l hl hg
  refine acl_in Try.func162 rfl isfn_162 (Nat.le_of_ble_eq_true rfl) (fun R hR => ?_); rw [Try.results162] at hR; refine wg_run ?_; (simp only [Try.f162, go_sem])
  (first | refine wd_cl [] (by (simp only [go_sem]); first | done | rfl) (hi) ?_ | refine wm_cl [] (by (simp only [go_sem]); first | done | rfl) (hi) (by (simp only [go_sem]); first | done | rfl) (by (simp only [go_sem]); first | done | rfl) ?_ | refine wt_cl [] (by (simp only [go_sem]); first | done | rfl) (hi) (by (simp only [go_sem]); first | done | rfl) (by (simp only [go_sem]); first | done | rfl) ?_); rintro _ _ ⟨rfl, rfl⟩; (simp only [go_sem])
  (refine hR _ (ret_at [] (by (simp only [go_sem]); first | done | rfl) (by (simp only [go_sem]); first | done | rfl) ⟨?_, ?_⟩))
  · rw [← teidx_any p l 0]
  · rfl
theorem teIndexFunc1 (g : FuncId) (d : Int) (p : Tm → Bool) (l : List Tm) (hl : l.length < 4611686018427387904)
    (hg : ∀ k, k < l.length → ACl Try.prog g [.agg (teC (teKid l k)), .one (.ptr 1 0 0 0)] [⟨1, 3, .mut, [[.sc (.int .i64 d)]]⟩] (fun r H' => r = .one (.sc (.bool (p (teKid l k)))) ∧ H' = [⟨1, 3, .mut, [[.sc (.int .i64 d)]]⟩])) :
    ACl Try.prog 186 [.one (.sl (teR l)), .one (.fn g [.ptr 1 0 0 0])] [⟨1, 3, .mut, [[.sc (.int .i64 d)]]⟩] (fun r H' => r = .one (.sc (.int .i64 (teidx p 0 l))) ∧ H' = [⟨1, 3, .mut, [[.sc (.int .i64 d)]]⟩]) := by
  refine acl_in Try.func186 rfl isfn_186 (Nat.le_of_ble_eq_true rfl) (fun R hR => ?_); rw [Try.results186] at hR; refine wg_run ?_; (simp only [Try.f186, go_sem])
  refine wd_for [0, 1, 7, 8] (fun k => [.one (.sl (teR l)), .one (.fn g [.ptr 1 0 0 0]), .one (.sc (.int .i64 l.length)), .one (.sc (.int .i64 (k : Nat)))]) (fun k => [⟨1, 3, .mut, [[.sc (.int .i64 d)]]⟩])
      (fun k => k ≤ l.length ∧ teidx p k (l.drop k) = teidx p 0 l) (fun k => l.length - k) 0 ⟨Nat.zero_le _, rfl⟩ (head_at [] (by (simp only [go_sem]); first | done | rfl) (by (simp only [go_sem]); first | done | rfl) ⟨rfl, rfl⟩) ?_
  rintro k ⟨hk, hs⟩ G hG
  refine wg_run ?_
  (simp only [go_sem])
  (first | refine wd_split _ (fun hb => ?_) (fun hb => ?_) | refine wd_nwant _ (fun hb => ?_) (fun hb => ?_) | refine wm_nwant _ (fun hb => ?_) (fun hb => ?_) | refine wd_want _ (fun hb => ?_) (fun hb => ?_) | refine wm_want _ (fun hb => ?_) (fun hb => ?_) | refine wt_nwant _ (fun hb => ?_) (fun hb => ?_) | refine wt_want _ (fun hb => ?_) (fun hb => ?_)) <;> (simp only [go_sem, hb])
  · have hk1 : k < l.length := by have := of_decide_eq_true hb; omega
    rw [tedrop_kid hk1, teidx] at hs
    have hw1 := wrap_succ hk1 (by omega)
    (first | refine wd_cl [0] (by (simp only [go_sem]); first | done | rfl) (hg k hk1) ?_ | refine wm_cl [0] (by (simp only [go_sem]); first | done | rfl) (hg k hk1) (by (simp only [go_sem]); first | done | rfl) (by (simp only [go_sem]); first | done | rfl) ?_ | refine wt_cl [0] (by (simp only [go_sem]); first | done | rfl) (hg k hk1) (by (simp only [go_sem]); first | done | rfl) (by (simp only [go_sem]); first | done | rfl) ?_); rintro _ _ ⟨rfl, rfl⟩; (simp only [go_sem])
    repeat' (first | (simp only [go_sem, hw1]) | ((first | refine wd_split _ (fun hb => ?_) (fun hb => ?_) | refine wd_nwant _ (fun hb => ?_) (fun hb => ?_) | refine wm_nwant _ (fun hb => ?_) (fun hb => ?_) | refine wd_want _ (fun hb => ?_) (fun hb => ?_) | refine wm_want _ (fun hb => ?_) (fun hb => ?_) | refine wt_nwant _ (fun hb => ?_) (fun hb => ?_) | refine wt_want _ (fun hb => ?_) (fun hb => ?_)) <;> (simp only [go_sem, hb, hw1])) | (refine wm_done ?_; (simp only [go_sem, hw1])) | (refine wt_done ?_; (simp only [go_sem, hw1])) | (refine wg_run ?_; (simp only [go_sem, hw1])) | (refine wt_fork (by (simp only [go_sem]); first | done | rfl) ?_ ?_ <;> (simp only [go_sem, hw1])))
    · (refine hR _ (ret_at [] (by (simp only [go_sem]); first | done | rfl) (by (simp only [go_sem]); first | done | rfl) ⟨?_, ?_⟩))
      · simpa [hb] using hs
      · rfl
    · exact hG (k + 1) _ _ ⟨by omega, by simpa [hb] using hs⟩ (by omega) (head_at [] (by (simp only [go_sem]); first | done | rfl) (by (simp only [go_sem]); first | done | rfl) ⟨rfl, rfl⟩)
  · have hk1 : ¬ k < l.length := by have := of_decide_eq_false hb; omega
    rw [List.drop_eq_nil_of_le (by omega), teidx] at hs
    (refine hR _ (ret_at [] (by (simp only [go_sem]); first | done | rfl) (by (simp only [go_sem]); first | done | rfl) ⟨?_, ?_⟩))
    · rw [← hs]
    · rfl
theorem teContainsFunc1 (g : FuncId) (d : Int) (p : Tm → Bool) (l : List Tm) (hl : l.length < 4611686018427387904)
    (hg : ∀ k, k < l.length → ACl Try.prog g [.agg (teC (teKid l k)), .one (.ptr 1 0 0 0)] [⟨1, 3, .mut, [[.sc (.int .i64 d)]]⟩] (fun r H' => r = .one (.sc (.bool (p (teKid l k)))) ∧ H' = [⟨1, 3, .mut, [[.sc (.int .i64 d)]]⟩])) :
    ACl Try.prog 162 [.one (.sl (teR l)), .one (.fn g [.ptr 1 0 0 0])] [⟨1, 3, .mut, [[.sc (.int .i64 d)]]⟩] (fun r H' => r = .one (.sc (.bool (l.any p))) ∧ H' = [⟨1, 3, .mut, [[.sc (.int .i64 d)]]⟩]) := by
  have hi := teIndexFunc1 g d p l hl hg
  refine acl_in Try.func162 rfl isfn_162 (Nat.le_of_ble_eq_true rfl) (fun R hR => ?_); rw [Try.results162] at hR; refine wg_run ?_; (simp only [Try.f162, go_sem])
  (first | refine wd_cl [0] (by (simp only [go_sem]); first | done | rfl) (hi) ?_ | refine wm_cl [0] (by (simp only [go_sem]); first | done | rfl) (hi) (by (simp only [go_sem]); first | done | rfl) (by (simp only [go_sem]); first | done | rfl) ?_ | refine wt_cl [0] (by (simp only [go_sem]); first | done | rfl) (hi) (by (simp only [go_sem]); first | done | rfl) (by (simp only [go_sem]); first | done | rfl) ?_); rintro _ _ ⟨rfl, rfl⟩; (simp only [go_sem])
  (refine hR _ (ret_at [] (by (simp only [go_sem]); first | done | rfl) (by (simp only [go_sem]); first | done | rfl) ⟨?_, ?_⟩))
  · rw [← teidx_any p l 0]
  · rfl
end Go.Proofs.Ytfgjiamolknicaa
/- Types: the reference's functions, on shadows. -/
namespace Go.Proofs.Ytfgjiamolknicaa
open Go.RowKit Go.Proofs.Sh Go.Proofs.Grad
set_option maxRecDepth 100000
set_option maxHeartbeats 1000000
@[go_sem] theorem kind_mk (k : Int) (l : List Ty) : (Ty.mk k l).kind = k := rfl
@[go_sem] theorem kids_mk (k : Int) (l : List Ty) : (Ty.mk k l).kids = l := rfl
theorem l1Kids (k : Int) : AFn Try.prog 168 [.one (.sc (.int .i64 k))] (.one (.sc (.int .i64 (kidsN k)))) := by
  refine fn_in ?_; refine acl_in Try.func168 rfl isfn_168 (Nat.le_of_ble_eq_true rfl) (fun R hR => ?_); rw [Try.results168] at hR; refine wg_run ?_; (simp only [Try.f168, go_sem])
  repeat' (first | ((first | refine wd_split _ (fun hb => ?_) (fun hb => ?_) | refine wd_nwant _ (fun hb => ?_) (fun hb => ?_) | refine wm_nwant _ (fun hb => ?_) (fun hb => ?_) | refine wd_want _ (fun hb => ?_) (fun hb => ?_) | refine wm_want _ (fun hb => ?_) (fun hb => ?_) | refine wt_nwant _ (fun hb => ?_) (fun hb => ?_) | refine wt_want _ (fun hb => ?_) (fun hb => ?_)) <;> (simp only [go_sem, hb])) | (refine wm_done ?_; (simp only [go_sem])) | (refine wt_done ?_; (simp only [go_sem])) | (refine wg_run ?_; (simp only [go_sem])) | (refine wt_fork (by (simp only [go_sem]); first | done | rfl) ?_ ?_ <;> (simp only [go_sem])))
  all_goals (refine hR _ (ret_at [] (by (simp only [go_sem]); first | done | rfl) (by (simp only [go_sem]); first | done | rfl) ⟨?_, rfl⟩))
  all_goals simp_all [kidsN]
@[go_sem] theorem kidsN_1 : kidsN 1 = 0 := rfl
@[go_sem] theorem kidsN_2 : kidsN 2 = 0 := rfl
@[go_sem] theorem kidsN_3 : kidsN 3 = 0 := rfl
@[go_sem] theorem kidsN_4 : kidsN 4 = 2 := rfl
@[go_sem] theorem kidsN_5 : kidsN 5 = 2 := rfl
theorem l1Shape (m : Nat) (hm : m ≤ 4) : ∀ t : Ty, AFn Try.prog 176 [.agg (tyC t), .one (.sc (.int .i64 m))] (.one (.sc (.bool (t.shape m)))) := by
  induction m with
  | zero =>
    intro t
    refine fn_in ?_; refine acl_in Try.func176 rfl isfn_176 (Nat.le_of_ble_eq_true rfl) (fun R hR => ?_); rw [Try.results176] at hR; refine wg_run ?_; (simp only [Try.f176, go_sem])
    (refine wd_mix 0 [] follows (by kernel_rfl) (by (simp only [go_sem]); first | done | rfl) ?_; (simp only [go_sem]))
    repeat' (first | ((first | refine wd_split _ (fun hb => ?_) (fun hb => ?_) | refine wd_nwant _ (fun hb => ?_) (fun hb => ?_) | refine wm_nwant _ (fun hb => ?_) (fun hb => ?_) | refine wd_want _ (fun hb => ?_) (fun hb => ?_) | refine wm_want _ (fun hb => ?_) (fun hb => ?_) | refine wt_nwant _ (fun hb => ?_) (fun hb => ?_) | refine wt_want _ (fun hb => ?_) (fun hb => ?_)) <;> (simp only [go_sem, hb])) | (refine wm_done ?_; (simp only [go_sem])) | (refine wt_done ?_; (simp only [go_sem])) | (refine wg_run ?_; (simp only [go_sem])) | (refine wt_fork (by (simp only [go_sem]); first | done | rfl) ?_ ?_ <;> (simp only [go_sem])))
    all_goals (refine hR _ (ret_at [] (by (simp only [go_sem]); first | done | rfl) (by (simp only [go_sem]); first | done | rfl) ⟨?_, rfl⟩))
    all_goals rfl
  | succ m ih =>
    intro t
    have hd : decide ((((m + 1 : Nat) : Int) < 1)) = false := by simp; omega
    have hw : IntKind.i64.wrap (((m + 1 : Nat) : Int) - 1) = (m : Int) := by rw [IntWalk.i64_in _ (by omega)]; omega
    refine fn_in ?_; refine acl_in Try.func176 rfl isfn_176 (Nat.le_of_ble_eq_true rfl) (fun R hR => ?_); rw [Try.results176] at hR; refine wg_run ?_; (simp only [Try.f176, go_sem])
    (refine wd_mix 0 [] follows (by kernel_rfl) (by (simp only [go_sem]); first | done | rfl) ?_; (simp only [go_sem]))
    (simp only [go_sem, hd])
    (first | refine wd_fn (by (simp only [go_sem]); first | done | rfl) (l1Kids _) ?_ | refine wm_fn (by (simp only [go_sem]); first | done | rfl) (l1Kids _) (by (simp only [go_sem]); first | done | rfl) (by (simp only [go_sem]); first | done | rfl) ?_ | refine wt_fn (by (simp only [go_sem]); first | done | rfl) (l1Kids _) (by (simp only [go_sem]); first | done | rfl) (by (simp only [go_sem]); first | done | rfl) ?_); (simp only [go_sem])
    repeat' (first | ((first | refine wd_split _ (fun hb => ?_) (fun hb => ?_) | refine wd_nwant _ (fun hb => ?_) (fun hb => ?_) | refine wm_nwant _ (fun hb => ?_) (fun hb => ?_) | refine wd_want _ (fun hb => ?_) (fun hb => ?_) | refine wm_want _ (fun hb => ?_) (fun hb => ?_) | refine wt_nwant _ (fun hb => ?_) (fun hb => ?_) | refine wt_want _ (fun hb => ?_) (fun hb => ?_)) <;> (simp only [go_sem, hb])) | (refine wm_done ?_; (simp only [go_sem])) | (refine wt_done ?_; (simp only [go_sem])) | (refine wg_run ?_; (simp only [go_sem])) | (refine wt_fork (by (simp only [go_sem]); first | done | rfl) ?_ ?_ <;> (simp only [go_sem])))
    · (refine hR _ (ret_at [] (by (simp only [go_sem]); first | done | rfl) (by (simp only [go_sem]); first | done | rfl) ⟨?_, rfl⟩))
      simp_all [Ty.shape]
    · refine wd_for [1, 2, 5] (fun k => [.one (.sc (.int .i64 ((m + 1 : Nat) : Int))), .one (.ptr 2 0 0 0), .one (.sc (.int .i64 (k : Nat)))]) (fun k => [⟨2, 25, .mut, [tyC t]⟩])
        (fun k => k ≤ t.kids.length ∧ (t.kids.drop k).all (Ty.shape m) = t.shape (m + 1)) (fun k => t.kids.length - k) 0 ⟨Nat.zero_le _, ?_⟩ (head_at [0] (by (simp only [go_sem]); first | done | rfl) (by (simp only [go_sem]); first | done | rfl) ⟨rfl, rfl⟩) ?_
      · clear hR
        simp_all [Ty.shape]
      rintro k ⟨hk, hs⟩ G hG
      refine wg_run ?_
      (simp only [go_sem])
      have hl : t.kids.length < 3 := by simp [kidsN] at hb; split at hb <;> try split at hb
                                        all_goals omega
      (first | refine wd_split _ (fun hb => ?_) (fun hb => ?_) | refine wd_nwant _ (fun hb => ?_) (fun hb => ?_) | refine wm_nwant _ (fun hb => ?_) (fun hb => ?_) | refine wd_want _ (fun hb => ?_) (fun hb => ?_) | refine wm_want _ (fun hb => ?_) (fun hb => ?_) | refine wt_nwant _ (fun hb => ?_) (fun hb => ?_) | refine wt_want _ (fun hb => ?_) (fun hb => ?_)) <;> (simp only [go_sem, hb, hw])
      · have hk1 : k < t.kids.length := by have := of_decide_eq_true hb; omega
        rw [drop_kid hk1, List.all_cons] at hs
        have hw1 := wrap_succ hk1 (by omega)
        (first | refine wd_fn (by (simp only [go_sem]); first | done | rfl) (ih (by omega) _) ?_ | refine wm_fn (by (simp only [go_sem]); first | done | rfl) (ih (by omega) _) (by (simp only [go_sem]); first | done | rfl) (by (simp only [go_sem]); first | done | rfl) ?_ | refine wt_fn (by (simp only [go_sem]); first | done | rfl) (ih (by omega) _) (by (simp only [go_sem]); first | done | rfl) (by (simp only [go_sem]); first | done | rfl) ?_); (simp only [go_sem])
        repeat' (first | (simp only [go_sem, hw1]) | ((first | refine wd_split _ (fun hb => ?_) (fun hb => ?_) | refine wd_nwant _ (fun hb => ?_) (fun hb => ?_) | refine wm_nwant _ (fun hb => ?_) (fun hb => ?_) | refine wd_want _ (fun hb => ?_) (fun hb => ?_) | refine wm_want _ (fun hb => ?_) (fun hb => ?_) | refine wt_nwant _ (fun hb => ?_) (fun hb => ?_) | refine wt_want _ (fun hb => ?_) (fun hb => ?_)) <;> (simp only [go_sem, hb, hw1])) | (refine wm_done ?_; (simp only [go_sem, hw1])) | (refine wt_done ?_; (simp only [go_sem, hw1])) | (refine wg_run ?_; (simp only [go_sem, hw1])) | (refine wt_fork (by (simp only [go_sem]); first | done | rfl) ?_ ?_ <;> (simp only [go_sem, hw1])))
        · exact hG (k + 1) _ _ ⟨by omega, by simpa [hb] using hs⟩ (by omega) (head_at [0] (by (simp only [go_sem]); first | done | rfl) (by (simp only [go_sem]); first | done | rfl) ⟨rfl, rfl⟩)
        · (refine hR _ (ret_at [] (by (simp only [go_sem]); first | done | rfl) (by (simp only [go_sem]); first | done | rfl) ⟨?_, rfl⟩))
          simpa [hb] using hs
      · have hk1 : ¬ k < t.kids.length := by have := of_decide_eq_false hb; omega
        rw [List.drop_eq_nil_of_le (by omega)] at hs
        (refine hR _ (ret_at [] (by (simp only [go_sem]); first | done | rfl) (by (simp only [go_sem]); first | done | rfl) ⟨?_, rfl⟩))
        simpa using hs
theorem sValid (t : Ty) : AFn Try.prog 151 [.agg (tyC t)] (.one (.sc (.bool t.valid))) := by
  refine fn_in ?_; refine acl_in Try.func151 rfl isfn_151 (Nat.le_of_ble_eq_true rfl) (fun R hR => ?_); rw [Try.results151] at hR; refine wg_run ?_; (simp only [Try.f151, go_sem])
  repeat' (first | (first | ((first | refine wd_split _ (fun hb => ?_) (fun hb => ?_) | refine wd_nwant _ (fun hb => ?_) (fun hb => ?_) | refine wm_nwant _ (fun hb => ?_) (fun hb => ?_) | refine wd_want _ (fun hb => ?_) (fun hb => ?_) | refine wm_want _ (fun hb => ?_) (fun hb => ?_) | refine wt_nwant _ (fun hb => ?_) (fun hb => ?_) | refine wt_want _ (fun hb => ?_) (fun hb => ?_)) <;> (simp only [go_sem, hb])) | (refine wm_done ?_; (simp only [go_sem])) | (refine wt_done ?_; (simp only [go_sem])) | (refine wg_run ?_; (simp only [go_sem])) | (refine wt_fork (by (simp only [go_sem]); first | done | rfl) ?_ ?_ <;> (simp only [go_sem]))) | (first | refine wd_fn (by (simp only [go_sem]); first | done | rfl) (l1Shape 4 (by omega) _) ?_ | refine wm_fn (by (simp only [go_sem]); first | done | rfl) (l1Shape 4 (by omega) _) (by (simp only [go_sem]); first | done | rfl) (by (simp only [go_sem]); first | done | rfl) ?_ | refine wt_fn (by (simp only [go_sem]); first | done | rfl) (l1Shape 4 (by omega) _) (by (simp only [go_sem]); first | done | rfl) (by (simp only [go_sem]); first | done | rfl) ?_); (simp only [go_sem]))
  (refine hR _ (ret_at [] (by (simp only [go_sem]); first | done | rfl) (by (simp only [go_sem]); first | done | rfl) ⟨?_, rfl⟩))
  rfl
end Go.Proofs.Ytfgjiamolknicaa
/- Types: the program's checks, on shadows. -/
namespace Go.Proofs.Sh
open Go.Proofs.Grad
theorem all2_kid {f : Ty → Ty → Bool} {a b : List Ty} {i : Nat} (ha : i < a.length) (hb : i < b.length) : all2 f (a.drop i) (b.drop i) = (f (kid a i) (kid b i) && all2 f (a.drop (i + 1)) (b.drop (i + 1))) := by
  rw [all2_drop ha hb, kid_eq ha, kid_eq hb]
theorem all2_end {f : Ty → Ty → Bool} {a b : List Ty} {i : Nat} (ha : ¬ i < a.length) (hb : a.length = b.length) : all2 f (a.drop i) (b.drop i) = true := by
  rw [List.drop_eq_nil_of_le (by omega), List.drop_eq_nil_of_le (by omega)]; rfl
/-- a type of a size that numbers hold -/
def Big : Nat := 4611686018427387904
end Go.Proofs.Sh
namespace Go.Proofs.Ytfgjiamolknicaa
open Go.RowKit Go.Proofs.Sh Go.Proofs.Grad
set_option maxRecDepth 100000
set_option maxHeartbeats 4000000
theorem eqFunc (g : FuncId) (Q : Ty → Ty → Bool) (l m : List Ty) (hl : l.length < 4611686018427387904)
    (hg : ∀ k, k < l.length → k < m.length → AFn Try.prog g [.agg (tyC (kid l k)), .agg (tyC (kid m k))] (.one (.sc (.bool (Q (kid l k) (kid m k)))))) :
    AFn Try.prog 138 [.one (.sl (tyR l)), .one (.sl (tyR m)), .one (.fn g [])] (.one (.sc (.bool (all2 Q l m)))) := by
  refine fn_in ?_; refine acl_in Try.func138 rfl isfn_138 (Nat.le_of_ble_eq_true rfl) (fun R hR => ?_); rw [Try.results138] at hR; refine wg_run ?_; (simp only [Try.f138, go_sem])
  repeat' (first | ((first | refine wd_split _ (fun hb => ?_) (fun hb => ?_) | refine wd_nwant _ (fun hb => ?_) (fun hb => ?_) | refine wm_nwant _ (fun hb => ?_) (fun hb => ?_) | refine wd_want _ (fun hb => ?_) (fun hb => ?_) | refine wm_want _ (fun hb => ?_) (fun hb => ?_) | refine wt_nwant _ (fun hb => ?_) (fun hb => ?_) | refine wt_want _ (fun hb => ?_) (fun hb => ?_)) <;> (simp only [go_sem, hb])) | (refine wm_done ?_; (simp only [go_sem])) | (refine wt_done ?_; (simp only [go_sem])) | (refine wg_run ?_; (simp only [go_sem])) | (refine wt_fork (by (simp only [go_sem]); first | done | rfl) ?_ ?_ <;> (simp only [go_sem])))
  · (refine hR _ (ret_at [] (by (simp only [go_sem]); first | done | rfl) (by (simp only [go_sem]); first | done | rfl) ⟨?_, rfl⟩))
    rw [all2_len]
    intro h; simp [h] at hb
  · have hlm : l.length = m.length := by simp at hb; omega
    clear hb
    refine wd_for [0, 1, 2, 15, 16, 17] (fun k => [.one (.sl (tyR l)), .one (.sl (tyR m)), .one (.fn g []), .one (.sl (tyR l)), .one (.sc (.int .i64 l.length)), .one (.sc (.int .i64 (k : Nat)))]) (fun k => [])
      (fun k => k ≤ l.length ∧ all2 Q (l.drop k) (m.drop k) = all2 Q l m) (fun k => l.length - k) 0 ⟨Nat.zero_le _, rfl⟩ (head_at [] (by (simp only [go_sem]); first | done | rfl) (by (simp only [go_sem]); first | done | rfl) ⟨rfl, rfl⟩) ?_
    rintro k ⟨hk, hs⟩ G hG
    refine wg_run ?_
    (simp only [go_sem])
    (first | refine wd_split _ (fun hb => ?_) (fun hb => ?_) | refine wd_nwant _ (fun hb => ?_) (fun hb => ?_) | refine wm_nwant _ (fun hb => ?_) (fun hb => ?_) | refine wd_want _ (fun hb => ?_) (fun hb => ?_) | refine wm_want _ (fun hb => ?_) (fun hb => ?_) | refine wt_nwant _ (fun hb => ?_) (fun hb => ?_) | refine wt_want _ (fun hb => ?_) (fun hb => ?_)) <;> (simp only [go_sem, hb])
    · have hk1 : k < l.length := by have := of_decide_eq_true hb; omega
      have hk2 : decide ((k : Int) < (m.length : Int)) = true := by simp; omega
      rw [all2_kid hk1 (by omega)] at hs
      have hw1 := wrap_succ hk1 (by omega)
      (simp only [go_sem, hk2])
      (first | refine wd_fn (by (simp only [go_sem]); first | done | rfl) (hg k hk1 (by omega)) ?_ | refine wm_fn (by (simp only [go_sem]); first | done | rfl) (hg k hk1 (by omega)) (by (simp only [go_sem]); first | done | rfl) (by (simp only [go_sem]); first | done | rfl) ?_ | refine wt_fn (by (simp only [go_sem]); first | done | rfl) (hg k hk1 (by omega)) (by (simp only [go_sem]); first | done | rfl) (by (simp only [go_sem]); first | done | rfl) ?_); (simp only [go_sem])
      repeat' (first | (simp only [go_sem, hw1]) | ((first | refine wd_split _ (fun hb => ?_) (fun hb => ?_) | refine wd_nwant _ (fun hb => ?_) (fun hb => ?_) | refine wm_nwant _ (fun hb => ?_) (fun hb => ?_) | refine wd_want _ (fun hb => ?_) (fun hb => ?_) | refine wm_want _ (fun hb => ?_) (fun hb => ?_) | refine wt_nwant _ (fun hb => ?_) (fun hb => ?_) | refine wt_want _ (fun hb => ?_) (fun hb => ?_)) <;> (simp only [go_sem, hb, hw1])) | (refine wm_done ?_; (simp only [go_sem, hw1])) | (refine wt_done ?_; (simp only [go_sem, hw1])) | (refine wg_run ?_; (simp only [go_sem, hw1])) | (refine wt_fork (by (simp only [go_sem]); first | done | rfl) ?_ ?_ <;> (simp only [go_sem, hw1])))
      · exact hG (k + 1) _ _ ⟨by omega, by simpa [hb] using hs⟩ (by omega) (head_at [] (by (simp only [go_sem]); first | done | rfl) (by (simp only [go_sem]); first | done | rfl) ⟨rfl, rfl⟩)
      · (refine hR _ (ret_at [] (by (simp only [go_sem]); first | done | rfl) (by (simp only [go_sem]); first | done | rfl) ⟨?_, rfl⟩))
        simpa [hb] using hs
    · have hk1 : ¬ k < l.length := by have := of_decide_eq_false hb; omega
      rw [all2_end hk1 hlm] at hs
      (refine hR _ (ret_at [] (by (simp only [go_sem]); first | done | rfl) (by (simp only [go_sem]); first | done | rfl) ⟨?_, rfl⟩))
      simpa using hs
theorem iSame (n : Nat) (hn : n ≤ 4611686018427387904) : ∀ a b : Ty, a.size < n → AFn Try.prog 71 [.agg (tyC a), .agg (tyC b)] (.one (.sc (.bool (a.same b)))) := by
  induction n with
  | zero => intro a b h; omega
  | succ n ih =>
    intro a b h
    have hl : a.kids.length < 4611686018427387904 := by have := Ty.length_le_sizes a.kids; cases a; simp only [Ty.size, Ty.kids] at *; omega
    have hk : ∀ k, k < a.kids.length → k < b.kids.length → AFn Try.prog 71 [.agg (tyC (kid a.kids k)), .agg (tyC (kid b.kids k))] (.one (.sc (.bool ((kid a.kids k).same (kid b.kids k))))) := fun k h1 h2 => ih (by omega) _ _ (by have := kid_lt h1; omega)
    have hf := eqFunc _ Ty.same a.kids b.kids hl hk
    clear hk ih
    rw [Ty.same_eq, Ty.sames_all2]
    refine fn_in ?_; refine acl_in Try.func71 rfl isfn_71 (Nat.le_of_ble_eq_true rfl) (fun R hR => ?_); rw [Try.results71] at hR; refine wg_run ?_; (simp only [Try.f71, go_sem])
    repeat' (first | (first | ((first | refine wd_split _ (fun hb => ?_) (fun hb => ?_) | refine wd_nwant _ (fun hb => ?_) (fun hb => ?_) | refine wm_nwant _ (fun hb => ?_) (fun hb => ?_) | refine wd_want _ (fun hb => ?_) (fun hb => ?_) | refine wm_want _ (fun hb => ?_) (fun hb => ?_) | refine wt_nwant _ (fun hb => ?_) (fun hb => ?_) | refine wt_want _ (fun hb => ?_) (fun hb => ?_)) <;> (simp only [go_sem, hb])) | (refine wm_done ?_; (simp only [go_sem])) | (refine wt_done ?_; (simp only [go_sem])) | (refine wg_run ?_; (simp only [go_sem])) | (refine wt_fork (by (simp only [go_sem]); first | done | rfl) ?_ ?_ <;> (simp only [go_sem]))) | (first | refine wd_fn (by (simp only [go_sem]); first | done | rfl) (hf) ?_ | refine wm_fn (by (simp only [go_sem]); first | done | rfl) (hf) (by (simp only [go_sem]); first | done | rfl) (by (simp only [go_sem]); first | done | rfl) ?_ | refine wt_fn (by (simp only [go_sem]); first | done | rfl) (hf) (by (simp only [go_sem]); first | done | rfl) (by (simp only [go_sem]); first | done | rfl) ?_); (simp only [go_sem]) | ((first | refine wd_mix 6 [] follows (by decide +kernel) (by (simp only [go_sem]); first | done | rfl) ?_ | refine wd_mix 5 [] follows (by decide +kernel) (by (simp only [go_sem]); first | done | rfl) ?_ | refine wd_mix 4 [] follows (by decide +kernel) (by (simp only [go_sem]); first | done | rfl) ?_ | refine wd_mix 3 [] follows (by decide +kernel) (by (simp only [go_sem]); first | done | rfl) ?_ | refine wd_mix 2 [] follows (by decide +kernel) (by (simp only [go_sem]); first | done | rfl) ?_ | refine wd_mix 1 [] follows (by decide +kernel) (by (simp only [go_sem]); first | done | rfl) ?_ | refine wd_mix 0 [] follows (by decide +kernel) (by (simp only [go_sem]); first | done | rfl) ?_ | fail); (simp only [go_sem])))
    all_goals (refine hR _ (ret_at [] (by (simp only [go_sem]); first | done | rfl) (by (simp only [go_sem]); first | done | rfl) ⟨?_, rfl⟩))
    all_goals simp_all
theorem iCons (n : Nat) (hn : n ≤ 4611686018427387904) : ∀ a b : Ty, a.size < n → AFn Try.prog 108 [.agg (tyC a), .agg (tyC b)] (.one (.sc (.bool (a.cons b)))) := by
  induction n with
  | zero => intro a b h; omega
  | succ n ih =>
    intro a b h
    have hl : a.kids.length < 4611686018427387904 := by have := Ty.length_le_sizes a.kids; cases a; simp only [Ty.size, Ty.kids] at *; omega
    have hk : ∀ k, k < a.kids.length → k < b.kids.length → AFn Try.prog 108 [.agg (tyC (kid a.kids k)), .agg (tyC (kid b.kids k))] (.one (.sc (.bool ((kid a.kids k).cons (kid b.kids k))))) := fun k h1 h2 => ih (by omega) _ _ (by have := kid_lt h1; omega)
    have hf := eqFunc _ Ty.cons a.kids b.kids hl hk
    clear hk ih
    rw [Ty.cons_eq]
    refine fn_in ?_; refine acl_in Try.func108 rfl isfn_108 (Nat.le_of_ble_eq_true rfl) (fun R hR => ?_); rw [Try.results108] at hR; refine wg_run ?_; (simp only [Try.f108, go_sem])
    repeat' (first | (first | ((first | refine wd_split _ (fun hb => ?_) (fun hb => ?_) | refine wd_nwant _ (fun hb => ?_) (fun hb => ?_) | refine wm_nwant _ (fun hb => ?_) (fun hb => ?_) | refine wd_want _ (fun hb => ?_) (fun hb => ?_) | refine wm_want _ (fun hb => ?_) (fun hb => ?_) | refine wt_nwant _ (fun hb => ?_) (fun hb => ?_) | refine wt_want _ (fun hb => ?_) (fun hb => ?_)) <;> (simp only [go_sem, hb])) | (refine wm_done ?_; (simp only [go_sem])) | (refine wt_done ?_; (simp only [go_sem])) | (refine wg_run ?_; (simp only [go_sem])) | (refine wt_fork (by (simp only [go_sem]); first | done | rfl) ?_ ?_ <;> (simp only [go_sem]))) | (first | refine wd_fn (by (simp only [go_sem]); first | done | rfl) (hf) ?_ | refine wm_fn (by (simp only [go_sem]); first | done | rfl) (hf) (by (simp only [go_sem]); first | done | rfl) (by (simp only [go_sem]); first | done | rfl) ?_ | refine wt_fn (by (simp only [go_sem]); first | done | rfl) (hf) (by (simp only [go_sem]); first | done | rfl) (by (simp only [go_sem]); first | done | rfl) ?_); (simp only [go_sem]) | ((first | refine wd_mix 6 [] follows (by decide +kernel) (by (simp only [go_sem]); first | done | rfl) ?_ | refine wd_mix 5 [] follows (by decide +kernel) (by (simp only [go_sem]); first | done | rfl) ?_ | refine wd_mix 4 [] follows (by decide +kernel) (by (simp only [go_sem]); first | done | rfl) ?_ | refine wd_mix 3 [] follows (by decide +kernel) (by (simp only [go_sem]); first | done | rfl) ?_ | refine wd_mix 2 [] follows (by decide +kernel) (by (simp only [go_sem]); first | done | rfl) ?_ | refine wd_mix 1 [] follows (by decide +kernel) (by (simp only [go_sem]); first | done | rfl) ?_ | refine wd_mix 0 [] follows (by decide +kernel) (by (simp only [go_sem]); first | done | rfl) ?_ | fail); (simp only [go_sem])))
    all_goals (refine hR _ (ret_at [] (by (simp only [go_sem]); first | done | rfl) (by (simp only [go_sem]); first | done | rfl) ⟨?_, rfl⟩))
    all_goals simp_all
theorem iPrec (n : Nat) (hn : n ≤ 4611686018427387904) : ∀ a b : Ty, a.size < n → AFn Try.prog 112 [.agg (tyC a), .agg (tyC b)] (.one (.sc (.bool (a.prec b)))) := by
  induction n with
  | zero => intro a b h; omega
  | succ n ih =>
    intro a b h
    have hl : a.kids.length < 4611686018427387904 := by have := Ty.length_le_sizes a.kids; cases a; simp only [Ty.size, Ty.kids] at *; omega
    have hk : ∀ k, k < a.kids.length → k < b.kids.length → AFn Try.prog 112 [.agg (tyC (kid a.kids k)), .agg (tyC (kid b.kids k))] (.one (.sc (.bool ((kid a.kids k).prec (kid b.kids k))))) := fun k h1 h2 => ih (by omega) _ _ (by have := kid_lt h1; omega)
    have hf := eqFunc _ Ty.prec a.kids b.kids hl hk
    clear hk ih
    rw [Ty.prec_eq]
    refine fn_in ?_; refine acl_in Try.func112 rfl isfn_112 (Nat.le_of_ble_eq_true rfl) (fun R hR => ?_); rw [Try.results112] at hR; refine wg_run ?_; (simp only [Try.f112, go_sem])
    repeat' (first | (first | ((first | refine wd_split _ (fun hb => ?_) (fun hb => ?_) | refine wd_nwant _ (fun hb => ?_) (fun hb => ?_) | refine wm_nwant _ (fun hb => ?_) (fun hb => ?_) | refine wd_want _ (fun hb => ?_) (fun hb => ?_) | refine wm_want _ (fun hb => ?_) (fun hb => ?_) | refine wt_nwant _ (fun hb => ?_) (fun hb => ?_) | refine wt_want _ (fun hb => ?_) (fun hb => ?_)) <;> (simp only [go_sem, hb])) | (refine wm_done ?_; (simp only [go_sem])) | (refine wt_done ?_; (simp only [go_sem])) | (refine wg_run ?_; (simp only [go_sem])) | (refine wt_fork (by (simp only [go_sem]); first | done | rfl) ?_ ?_ <;> (simp only [go_sem]))) | (first | refine wd_fn (by (simp only [go_sem]); first | done | rfl) (hf) ?_ | refine wm_fn (by (simp only [go_sem]); first | done | rfl) (hf) (by (simp only [go_sem]); first | done | rfl) (by (simp only [go_sem]); first | done | rfl) ?_ | refine wt_fn (by (simp only [go_sem]); first | done | rfl) (hf) (by (simp only [go_sem]); first | done | rfl) (by (simp only [go_sem]); first | done | rfl) ?_); (simp only [go_sem]) | ((first | refine wd_mix 6 [] follows (by decide +kernel) (by (simp only [go_sem]); first | done | rfl) ?_ | refine wd_mix 5 [] follows (by decide +kernel) (by (simp only [go_sem]); first | done | rfl) ?_ | refine wd_mix 4 [] follows (by decide +kernel) (by (simp only [go_sem]); first | done | rfl) ?_ | refine wd_mix 3 [] follows (by decide +kernel) (by (simp only [go_sem]); first | done | rfl) ?_ | refine wd_mix 2 [] follows (by decide +kernel) (by (simp only [go_sem]); first | done | rfl) ?_ | refine wd_mix 1 [] follows (by decide +kernel) (by (simp only [go_sem]); first | done | rfl) ?_ | refine wd_mix 0 [] follows (by decide +kernel) (by (simp only [go_sem]); first | done | rfl) ?_ | fail); (simp only [go_sem])))
    all_goals (refine hR _ (ret_at [] (by (simp only [go_sem]); first | done | rfl) (by (simp only [go_sem]); first | done | rfl) ⟨?_, rfl⟩))
    all_goals simp_all
/-- the index of the first one, -1 for none -/
def idx (p : Ty → Bool) : Nat → List Ty → Int
  | _, [] => -1
  | k, t :: l => if p t then (k : Nat) else idx p (k + 1) l
theorem idx_lt (p : Ty → Bool) : ∀ (l : List Ty) (k : Nat), idx p k l < 0 ∨ (k : Int) ≤ idx p k l
  | [], k => .inl (by simp [idx])
  | t :: l, k => by
    simp only [idx]
    split
    · right; omega
    · rcases idx_lt p l (k + 1) with h | h
      · exact .inl h
      · right; omega
theorem idx_any (p : Ty → Bool) : ∀ (l : List Ty) (k : Nat), decide (0 ≤ idx p k l) = l.any p
  | [], k => by simp [idx]
  | t :: l, k => by
    simp only [idx, List.any_cons]
    split
    · rename_i h; simp [h]
    · rename_i h; rw [idx_any p l (k + 1)]; simp [h]
theorem indexFunc1 (g : FuncId) (d : Int) (p : Ty → Bool) (l : List Ty) (hl : l.length < 4611686018427387904)
    (hg : ∀ k, k < l.length → ACl Try.prog g [.agg (tyC (kid l k)), .one (.ptr 1 0 0 0)] [⟨1, 3, .mut, [[.sc (.int .i64 d)]]⟩] (fun r H' => r = .one (.sc (.bool (p (kid l k)))) ∧ H' = [⟨1, 3, .mut, [[.sc (.int .i64 d)]]⟩])) :
    ACl Try.prog 203 [.one (.sl (tyR l)), .one (.fn g [.ptr 1 0 0 0])] [⟨1, 3, .mut, [[.sc (.int .i64 d)]]⟩] (fun r H' => r = .one (.sc (.int .i64 (idx p 0 l))) ∧ H' = [⟨1, 3, .mut, [[.sc (.int .i64 d)]]⟩]) := by
  refine acl_in Try.func203 rfl isfn_203 (Nat.le_of_ble_eq_true rfl) (fun R hR => ?_); rw [Try.results203] at hR; refine wg_run ?_; (simp only [Try.f203, go_sem])
  refine wd_for [0, 1, 7, 8] (fun k => [.one (.sl (tyR l)), .one (.fn g [.ptr 1 0 0 0]), .one (.sc (.int .i64 l.length)), .one (.sc (.int .i64 (k : Nat)))]) (fun k => [⟨1, 3, .mut, [[.sc (.int .i64 d)]]⟩])
      (fun k => k ≤ l.length ∧ idx p k (l.drop k) = idx p 0 l) (fun k => l.length - k) 0 ⟨Nat.zero_le _, rfl⟩ (head_at [] (by (simp only [go_sem]); first | done | rfl) (by (simp only [go_sem]); first | done | rfl) ⟨rfl, rfl⟩) ?_
  rintro k ⟨hk, hs⟩ G hG
  refine wg_run ?_
  (simp only [go_sem])
  (first | refine wd_split _ (fun hb => ?_) (fun hb => ?_) | refine wd_nwant _ (fun hb => ?_) (fun hb => ?_) | refine wm_nwant _ (fun hb => ?_) (fun hb => ?_) | refine wd_want _ (fun hb => ?_) (fun hb => ?_) | refine wm_want _ (fun hb => ?_) (fun hb => ?_) | refine wt_nwant _ (fun hb => ?_) (fun hb => ?_) | refine wt_want _ (fun hb => ?_) (fun hb => ?_)) <;> (simp only [go_sem, hb])
  · have hk1 : k < l.length := by have := of_decide_eq_true hb; omega
    rw [drop_kid hk1, idx] at hs
    have hw1 := wrap_succ hk1 (by omega)
    (first | refine wd_cl [0] (by (simp only [go_sem]); first | done | rfl) (hg k hk1) ?_ | refine wm_cl [0] (by (simp only [go_sem]); first | done | rfl) (hg k hk1) (by (simp only [go_sem]); first | done | rfl) (by (simp only [go_sem]); first | done | rfl) ?_ | refine wt_cl [0] (by (simp only [go_sem]); first | done | rfl) (hg k hk1) (by (simp only [go_sem]); first | done | rfl) (by (simp only [go_sem]); first | done | rfl) ?_); rintro _ _ ⟨rfl, rfl⟩; (simp only [go_sem])
    repeat' (first | (simp only [go_sem, hw1]) | ((first | refine wd_split _ (fun hb => ?_) (fun hb => ?_) | refine wd_nwant _ (fun hb => ?_) (fun hb => ?_) | refine wm_nwant _ (fun hb => ?_) (fun hb => ?_) | refine wd_want _ (fun hb => ?_) (fun hb => ?_) | refine wm_want _ (fun hb => ?_) (fun hb => ?_) | refine wt_nwant _ (fun hb => ?_) (fun hb => ?_) | refine wt_want _ (fun hb => ?_) (fun hb => ?_)) <;> (simp only [go_sem, hb, hw1])) | (refine wm_done ?_; (simp only [go_sem, hw1])) | (refine wt_done ?_; (simp only [go_sem, hw1])) | (refine wg_run ?_; (simp only [go_sem, hw1])) | (refine wt_fork (by (simp only [go_sem]); first | done | rfl) ?_ ?_ <;> (simp only [go_sem, hw1])))
    · (refine hR _ (ret_at [] (by (simp only [go_sem]); first | done | rfl) (by (simp only [go_sem]); first | done | rfl) ⟨?_, ?_⟩))
      · simpa [hb] using hs
      · rfl
    · exact hG (k + 1) _ _ ⟨by omega, by simpa [hb] using hs⟩ (by omega) (head_at [] (by (simp only [go_sem]); first | done | rfl) (by (simp only [go_sem]); first | done | rfl) ⟨rfl, rfl⟩)
  · have hk1 : ¬ k < l.length := by have := of_decide_eq_false hb; omega
    rw [List.drop_eq_nil_of_le (by omega), idx] at hs
    (refine hR _ (ret_at [] (by (simp only [go_sem]); first | done | rfl) (by (simp only [go_sem]); first | done | rfl) ⟨?_, ?_⟩))
    · rw [← hs]
    · rfl
theorem containsFunc1 (g : FuncId) (d : Int) (p : Ty → Bool) (l : List Ty) (hl : l.length < 4611686018427387904)
    (hg : ∀ k, k < l.length → ACl Try.prog g [.agg (tyC (kid l k)), .one (.ptr 1 0 0 0)] [⟨1, 3, .mut, [[.sc (.int .i64 d)]]⟩] (fun r H' => r = .one (.sc (.bool (p (kid l k)))) ∧ H' = [⟨1, 3, .mut, [[.sc (.int .i64 d)]]⟩])) :
    ACl Try.prog 177 [.one (.sl (tyR l)), .one (.fn g [.ptr 1 0 0 0])] [⟨1, 3, .mut, [[.sc (.int .i64 d)]]⟩] (fun r H' => r = .one (.sc (.bool (l.any p))) ∧ H' = [⟨1, 3, .mut, [[.sc (.int .i64 d)]]⟩]) := by
  have hi := indexFunc1 g d p l hl hg
  refine acl_in Try.func177 rfl isfn_177 (Nat.le_of_ble_eq_true rfl) (fun R hR => ?_); rw [Try.results177] at hR; refine wg_run ?_; (simp only [Try.f177, go_sem])
  (first | refine wd_cl [0] (by (simp only [go_sem]); first | done | rfl) (hi) ?_ | refine wm_cl [0] (by (simp only [go_sem]); first | done | rfl) (hi) (by (simp only [go_sem]); first | done | rfl) (by (simp only [go_sem]); first | done | rfl) ?_ | refine wt_cl [0] (by (simp only [go_sem]); first | done | rfl) (hi) (by (simp only [go_sem]); first | done | rfl) (by (simp only [go_sem]); first | done | rfl) ?_); rintro _ _ ⟨rfl, rfl⟩; (simp only [go_sem])
  (refine hR _ (ret_at [] (by (simp only [go_sem]); first | done | rfl) (by (simp only [go_sem]); first | done | rfl) ⟨?_, ?_⟩))
  · rw [← idx_any p l 0]
  · rfl
end Go.Proofs.Ytfgjiamolknicaa
