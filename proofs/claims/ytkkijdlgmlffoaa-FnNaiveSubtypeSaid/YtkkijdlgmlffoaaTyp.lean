/- Types as trees, and how a type lies in memory. -/
import Derived.Test.YtkkijdlgmlffoaaCore
import Derived.Test.YtkkijdlgmlffoaaPty
namespace Go.Proofs.Grad
open Go.RowKit

mutual
def Ty.cs : Ty → List C
  | .mk k l => [.sc (.int .i64 k), .sl 2 l.length (Ty.css l)]
def Ty.css : List Ty → List C
  | [] => []
  | t :: l => t.cs ++ Ty.css l
end

theorem Ty.cs_length (t : Ty) : t.cs.length = 2 := by cases t; simp [Ty.cs]
theorem Ty.css_eq (l : List Ty) : Ty.css l = l.flatMap Ty.cs := by
  induction l with
  | nil => simp [Ty.css]
  | cons t l ih => simp [Ty.css, ih]
/-- A slice of types in memory. -/
def TysRep (L : List Nat) (w : World) (l : List Ty) (p : Option Addr) (cap : Nat) : Prop := C.rep L w (.sl 2 l.length (Ty.css l)) (.slice p l.length cap)

theorem TysRep.len {L w l p cap} (h : TysRep L w l p cap) : l.length ≤ cap ∧ cap ≤ maxLen := by
  simp only [TysRep, C.rep] at h
  obtain ⟨p', cap', e, h1, h2, h3⟩ := h
  injection e with e1 e2 e3
  exact ⟨e3 ▸ h1, e3 ▸ h2⟩

theorem TysRep.at {L w l p cap} (h : TysRep L w l p cap) {i : Nat} (hi : i < l.length) : ∃ b off, p = some ⟨b, off, none⟩ ∧ b ∉ L ∧
    w.cell? ⟨b, off + i * 2, none⟩ = some (.int .i64 l[i].kind) ∧ ∃ q cap', w.cell? ⟨b, off + i * 2 + 1, none⟩ = some (.slice q l[i].kids.length cap') ∧ TysRep L w l[i].kids q cap' := by
  simp only [TysRep, C.rep] at h
  obtain ⟨p', cap', e, h1, h2, h3⟩ := h
  injection e with e1 e2 e3
  subst e1
  rw [Ty.css_eq] at h3
  rcases h3 with h3 | ⟨b, off, hp, hb, h3⟩
  · cases l with
    | nil => simp at hi
    | cons t l => rw [List.flatMap_cons] at h3; have := Ty.cs_length t; rw [List.append_eq_nil_iff] at h3; rw [h3.1] at this; simp at this
  · refine ⟨b, off, hp, hb, ?_⟩
    have h4 := C.reps_flat Ty.cs_length h3 hi
    generalize l[i] = t at h4
    cases t with
    | mk k m =>
      simp only [Ty.cs, C.reps, C.rep] at h4
      obtain ⟨⟨u, hu, rfl⟩, ⟨u', hu', q, cap'', rfl, r1, r2, r3⟩, _⟩ := h4
      refine ⟨hu, q, cap'', hu', ?_⟩
      simp only [TysRep, C.rep]
      exact ⟨q, cap'', rfl, r1, r2, r3⟩

theorem TysRep.keep {L w w' l p cap} (k : Keep L w w') (h : TysRep L w l p cap) : TysRep L w' l p cap := C.rep.keep k h
theorem TysRep.fresh {L w l p cap} {n : Nat} (hn : w.heap.size ≤ n) (h : TysRep L w l p cap) : TysRep (n :: L) w l p cap := C.rep.fresh hn h
theorem TysRep.mono {L L' w l p cap} (hL : ∀ x, x ∈ L' → x ∈ L) (h : TysRep L w l p cap) : TysRep L' w l p cap := C.rep.mono hL h
theorem Ty.css_take_succ {l : List Ty} {i : Nat} (h : i < l.length) : Ty.css (l.take (i + 1)) = Ty.css (l.take i) ++ l[i].cs := by
  rw [Ty.css_eq, Ty.css_eq, List.take_succ_eq_append_getElem h, List.flatMap_append]; simp

theorem Ty.cs_eq (t : Ty) : t.cs = [.sc (.int .i64 t.kind), .sl 2 t.kids.length (Ty.css t.kids)] := by cases t; rfl

theorem New.ty {T : Nat → TypeId} {w w1 : World} {t : Ty} {v : Value} (h : Fresh T w w1 (.sl 2 t.kids.length (Ty.css t.kids)) v) : New T w w1 t.cs [.int .i64 t.kind, v] := by
  obtain ⟨F, h1, h2, h3⟩ := h
  refine ⟨F, ?_, h2, h3⟩
  rw [Ty.cs_eq]
  simp only [C.owns, C.own]
  exact ⟨_, _, [], F, rfl, ⟨rfl, rfl⟩, ⟨v, [], F, [], rfl, h1, ⟨rfl, rfl⟩, by simp⟩, by simp⟩

theorem TysRep.two {L w x y p cap} (h : TysRep L w [x, y] p cap) : ∃ b off, p = some ⟨b, off, none⟩ ∧ b < w.heap.size ∧
    w.cell? ⟨b, off, none⟩ = some (.int .i64 x.kind) ∧ (∃ q c, w.cell? ⟨b, off + 1, none⟩ = some (.slice q x.kids.length c) ∧ TysRep L w x.kids q c) ∧
    w.cell? ⟨b, off + 2, none⟩ = some (.int .i64 y.kind) ∧ (∃ q c, w.cell? ⟨b, off + 2 + 1, none⟩ = some (.slice q y.kids.length c) ∧ TysRep L w y.kids q c) := by
  obtain ⟨b, off, h1, h2, h3, q, c, h4, h5⟩ := h.at (i := 0) (by simp)
  obtain ⟨b', off', h1', h2', h3', q', c', h4', h5'⟩ := h.at (i := 1) (by simp)
  rw [h1] at h1'
  simp only [Option.some.injEq, Addr.mk.injEq, and_true] at h1'
  obtain ⟨rfl, rfl⟩ := h1'
  exact ⟨b, off, h1, lt_of_cell h3, by simpa using h3, ⟨q, c, by simpa using h4, h5⟩, by simpa using h3', ⟨q', c', by simpa using h4', h5'⟩⟩

/-- what a walk gives back: a bool, an int, a type in new memory -/
def RetB (w : World) (b : Bool) (e : Ending) (w' : World) : Prop := e = .returned (.bool b) ∧ Below w.heap.size w w'
def RetI (w : World) (n : Int) (e : Ending) (w' : World) : Prop := e = .returned (.int .i64 n) ∧ Below w.heap.size w w'
def RetTy (T : Nat → TypeId) (w : World) (t : Ty) (e : Ending) (w' : World) : Prop :=
  ∃ q cap, e = .returned (.agg #[.int .i64 t.kind, .slice q t.kids.length cap]) ∧ Fresh T w w' (.sl 2 t.kids.length (Ty.css t.kids)) (.slice q t.kids.length cap) ∧ Below w.heap.size w w'

theorem les {d n : Nat} (h : d < n) : d < n + 1 ∧ d < n + 1 + 1 ∧ d < n + 1 + 1 + 1 := by omega

theorem bcell {B : Nat} {W w1 : World} (hb : Below B W w1) : (∀ b o, b < B → w1.cell? ⟨b, o, none⟩ = W.cell? ⟨b, o, none⟩) ∧ (∀ b o, b < B → w1.frozen? ⟨b, o, none⟩ = W.frozen? ⟨b, o, none⟩) :=
  ⟨fun b o h => hb.cell (p := ⟨b, o, none⟩) h, fun b o h => hb.frozen (p := ⟨b, o, none⟩) h⟩

/-- a function value that names a function with a body -/
def IsFn (P : Program) (f : FuncId) : Prop := ∀ (args : Array Value) (w : World), (callFunc f args).run P w = .ok (.enter f args) w

/-- the first place at which the test holds, or -1 -/
def findI (p : Ty → Bool) : List Ty → Int
  | [] => -1
  | t :: l => if p t then 0 else if findI p l < 0 then -1 else findI p l + 1
theorem findI_iff (p : Ty → Bool) : ∀ l : List Ty, 0 ≤ findI p l ↔ l.any p = true
  | [] => by simp [findI]
  | t :: l => by
    have := findI_iff p l
    simp only [findI, List.any_cons, Bool.or_eq_true]
    rw [← this]
    by_cases h : p t = true
    · simp [h]
    · simp only [h, if_false, Bool.false_eq_true, false_or]
      split <;> omega
theorem findI_any (p : Ty → Bool) (l : List Ty) : decide (0 ≤ findI p l) = l.any p := by
  rw [Bool.eq_iff_iff, decide_eq_true_iff, findI_iff]
theorem findI_ge (p : Ty → Bool) : ∀ l : List Ty, -1 ≤ findI p l
  | [] => by simp [findI]
  | t :: l => by
    have := findI_ge p l
    simp only [findI]
    split
    · omega
    · split <;> omega
/-- after k elements that fail -/
theorem findI_at (p : Ty → Bool) : ∀ (l : List Ty) (k : Nat) (h : k < l.length), (∀ t ∈ l.take k, p t = false) → p l[k] = true → findI p l = k
  | [], k, h, _, _ => absurd h (by simp)
  | t :: l, 0, h, _, h2 => by simp [findI] at h2 ⊢; simp [h2]
  | t :: l, k + 1, h, h1, h2 => by
    have := findI_at p l k (by simpa using h) (fun x hx => h1 x (by simp [hx])) (by simpa using h2)
    simp only [findI, h1 t (by simp), this]
    simp; omega
theorem findI_none (p : Ty → Bool) : ∀ (l : List Ty), (∀ t ∈ l, p t = false) → findI p l = -1
  | [], _ => rfl
  | t :: l, h => by simp [findI, h t (by simp), findI_none p l (fun x hx => h x (by simp [hx]))]
theorem take_false {p : Ty → Bool} {l : List Ty} {k : Nat} (h : k < l.length) (h1 : ∀ t ∈ l.take k, p t = false) (h2 : p l[k] = false) : ∀ t ∈ l.take (k + 1), p t = false := by
  intro t ht
  rw [List.take_succ_eq_append_getElem h] at ht
  rcases List.mem_append.1 ht with ht | ht
  · exact h1 t ht
  · simp at ht; rw [ht]; exact h2

theorem TysRep.nil (L : List Nat) (w : World) : TysRep L w [] none 0 := by
  simp only [TysRep, C.rep]
  exact ⟨none, 0, rfl, by simp, by simp [maxLen], .inl rfl⟩

theorem TysRep.of_two {L w x y b off q c q' c' cap} (hb : b ∉ L) (c0 : w.cell? ⟨b, off, none⟩ = some (.int .i64 x.kind)) (c1 : w.cell? ⟨b, off + 1, none⟩ = some (.slice q x.kids.length c)) (r1 : TysRep L w x.kids q c)
    (c2 : w.cell? ⟨b, off + 1 + 1, none⟩ = some (.int .i64 y.kind)) (c3 : w.cell? ⟨b, off + 1 + 1 + 1, none⟩ = some (.slice q' y.kids.length c')) (r2 : TysRep L w y.kids q' c') (h1 : 2 ≤ cap) (h2 : cap ≤ maxLen) : TysRep L w [x, y] (some ⟨b, off, none⟩) cap := by
  have hx : x.cs = [.sc (.int .i64 x.kind), .sl 2 x.kids.length (Ty.css x.kids)] := Ty.cs_eq x
  have hy : y.cs = [.sc (.int .i64 y.kind), .sl 2 y.kids.length (Ty.css y.kids)] := Ty.cs_eq y
  unfold TysRep C.rep
  refine ⟨_, cap, rfl, h1, h2, .inr ⟨b, off, rfl, hb, ?_⟩⟩
  simp only [Ty.css, hx, hy, List.cons_append, List.nil_append, List.append_nil, C.reps, and_true]
  exact ⟨⟨_, c0, by simp [C.rep]⟩, ⟨_, c1, r1⟩, ⟨_, c2, by simp [C.rep]⟩, ⟨_, c3, r2⟩⟩

/-- a type that may share memory, but for the blocks of L -/
def RetTyR (L : List Nat) (w : World) (t : Ty) (e : Ending) (w' : World) : Prop :=
  ∃ q cap, e = .returned (.agg #[.int .i64 t.kind, .slice q t.kids.length cap]) ∧ TysRep L w' t.kids q cap ∧ Below w.heap.size w w'

theorem TysRep.cell {L w l q c n o u} (h : TysRep (n :: L) w l q c) : TysRep (n :: L) (w.setCell ⟨n, o, none⟩ u) l q c := h.keep (Keep.setCell (by simp) u)
theorem TysRep.drop {L w l q c} {n : Nat} (h : TysRep (n :: L) w l q c) : TysRep L w l q c := h.mono (fun _ hx => List.mem_cons_of_mem _ hx)
end Go.Proofs.Grad
