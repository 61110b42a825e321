/- What a shadow says of a value and of a world; what keeps it true. -/
import Derived.Test.YtkkijdlgmlffoaaSh
import Derived.Deep.AppendLies
namespace Go.Proofs.Sh
open Go.RowKit

/-- a row of n cells in block g -/
def RowAt (w : World) (g n : Nat) : Prop := ∃ cur ty, w.heap[g]? = some (.cells cur ty (0, 0)) ∧ cur.size = n

mutual
def C.rep (L μ : List Nat) (w : World) : C → Value → Prop
  | .top, u => u.oneCell' = true
  | .sc v, u => u = v ∧ u.oneCell' = true
  | .sl rows, u => ∃ p cap, u = .slice p rows.length cap ∧ rows.length ≤ cap ∧ cap ≤ maxLen ∧ (rows = [] ∨ ∃ b off s, p = some ⟨b, off, none⟩ ∧ b < w.heap.size ∧ b ∉ L ∧ C.repss L [] w s rows b off)
  | .cur cs j, u => ∃ b off, u = .pointer (some ⟨b, off + j, none⟩) ∧ b < w.heap.size ∧ b ∉ L ∧ C.reps L [] w cs b off
  | .row s b n, u => ∃ g cap, μ[b]? = some g ∧ u = .slice (some ⟨g, 0, none⟩) n cap ∧ n ≤ cap ∧ cap ≤ maxLen ∧ RowAt w g (cap * s)
  | .ptr s b i j, u => ∃ g, μ[b]? = some g ∧ u = .pointer (some ⟨g, i * s + j, none⟩)
  | .fn f caps, u => ∃ arr : Array Value, u = .func (.func f) #[] arr ∧ C.repl L μ w caps arr.toList
def C.reps (L μ : List Nat) (w : World) : List C → Nat → Nat → Prop
  | [], _, _ => True
  | c :: cs, b, off => (∃ u, w.cell? ⟨b, off, none⟩ = some u ∧ C.rep L μ w c u) ∧ C.reps L μ w cs b (off + 1)
def C.repss (L μ : List Nat) (w : World) (s : Nat) : List (List C) → Nat → Nat → Prop
  | [], _, _ => True
  | r :: rows, b, off => r.length = s ∧ C.reps L μ w r b off ∧ C.repss L μ w s rows b (off + s)
def C.repl (L μ : List Nat) (w : World) : List C → List Value → Prop
  | [], us => us = []
  | c :: cs, us => ∃ u us', us = u :: us' ∧ C.rep L μ w c u ∧ C.repl L μ w cs us'
end

/-- From one world to a later one: nothing but the blocks of L has been written. -/
structure Keep (L : List Nat) (w w' : World) : Prop where
  os : w'.os = w.os
  tape : w'.tape = w.tape
  output : w'.output = w.output
  size : w.heap.size ≤ w'.heap.size
  block : ∀ b, b ∉ L → b < w.heap.size → w'.heap[b]? = w.heap[b]?
  shape : ∀ (b : Nat) cur ty, w.heap[b]? = some (.cells cur ty (0, 0)) → ∃ cur', w'.heap[b]? = some (.cells cur' ty (0, 0)) ∧ cur'.size = cur.size

theorem Keep.refl (L : List Nat) (w : World) : Keep L w w := ⟨rfl, rfl, rfl, Nat.le_refl _, fun _ _ _ => rfl, fun _ cur _ h => ⟨cur, h, rfl⟩⟩
theorem Keep.trans {L M : List Nat} {a b c : World} (h : Keep L a b) (k : Keep M b c) (hM : ∀ x, x ∈ M → x < a.heap.size → x ∈ L) : Keep L a c :=
  ⟨k.os.trans h.os, k.tape.trans h.tape, k.output.trans h.output, Nat.le_trans h.size k.size,
   fun x hx hl => (k.block x (fun hm => hx (hM x hm hl)) (Nat.lt_of_lt_of_le hl h.size)).trans (h.block x hx hl),
   fun x cur ty hb => let ⟨c1, h1, e1⟩ := h.shape x cur ty hb; let ⟨c2, h2, e2⟩ := k.shape x c1 ty h1; ⟨c2, h2, e2.trans e1⟩⟩
theorem Keep.mono {L L' : List Nat} {w w' : World} (h : Keep L w w') (hL : ∀ x, x ∈ L → x ∈ L') : Keep L' w w' :=
  ⟨h.os, h.tape, h.output, h.size, fun b hb hl => h.block b (fun hm => hb (hL b hm)) hl, h.shape⟩

theorem lt_of_cell {w : World} {b off : Nat} {u : Value} (h : w.cell? ⟨b, off, none⟩ = some u) : b < w.heap.size := by
  rcases Nat.lt_or_ge b w.heap.size with h1 | h1
  · exact h1
  · simp [World.cell?, Array.getElem?_eq_none h1] at h
theorem Keep.cell {L : List Nat} {w w' : World} (h : Keep L w w') {b off : Nat} {u : Value} (hb : b ∉ L) (hc : w.cell? ⟨b, off, none⟩ = some u) : w'.cell? ⟨b, off, none⟩ = some u := by
  rw [World.cell?_of_block (w := w) (w' := w') (a := ⟨b, off, none⟩) (h.block b hb (lt_of_cell hc))]; exact hc
theorem Keep.row {L : List Nat} {w w' : World} (h : Keep L w w') {g n : Nat} (hr : RowAt w g n) : RowAt w' g n := by
  obtain ⟨cur, ty, h1, h2⟩ := hr
  obtain ⟨c', h3, h4⟩ := h.shape g cur ty h1
  exact ⟨c', ty, h3, h4.trans h2⟩

/-- How what is known carries over: K: what the change may write; L: what a tree avoids before, L' after; μ: where the own blocks are, before and after. -/
structure Carry (K L L' μ μ' : List Nat) (w w' : World) : Prop where
  keep : Keep K w w'
  sub : ∀ x, x < w.heap.size → x ∉ L → x ∉ K
  to : ∀ x, x < w.heap.size → x ∉ L → x ∉ L'
  map : ∀ (b g : Nat), μ[b]? = some g → μ'[b]? = some g

theorem Carry.nil {K L L' μ μ' : List Nat} {w w' : World} (k : Carry K L L' μ μ' w w') : Carry K L L' [] [] w w' := ⟨k.keep, k.sub, k.to, fun _ _ h => h⟩
mutual
theorem C.rep.carry {K L L' : List Nat} {w w' : World} : ∀ {c : C} {u : Value} {μ μ' : List Nat} (_ : Carry K L L' μ μ' w w'), C.rep L μ w c u → C.rep L' μ' w' c u
  | .top, u, _, _, k, h => by simpa [C.rep] using h
  | .sc v, u, _, _, k, h => by simpa [C.rep] using h
  | .sl rows, u, _, _, k, h => by
    simp only [C.rep] at h ⊢
    obtain ⟨p, cap, e, h1, h2, h3⟩ := h
    refine ⟨p, cap, e, h1, h2, ?_⟩
    rcases h3 with h3 | ⟨b, off, s, hp, hlt, hb, h3⟩
    · exact .inl h3
    · exact .inr ⟨b, off, s, hp, Nat.lt_of_lt_of_le hlt k.keep.size, k.to b hlt hb, C.repss.carry k.nil (k.sub b hlt hb) h3⟩
  | .cur cs j, u, _, _, k, h => by
    simp only [C.rep] at h ⊢
    obtain ⟨b, off, e, hlt, hb, h3⟩ := h
    exact ⟨b, off, e, Nat.lt_of_lt_of_le hlt k.keep.size, k.to b hlt hb, C.reps.carry k.nil (k.sub b hlt hb) h3⟩
  | .row s b n, u, _, _, k, h => by
    simp only [C.rep] at h ⊢
    obtain ⟨g, cap, h1, h2, h3, h4, h5⟩ := h
    exact ⟨g, cap, k.map b g h1, h2, h3, h4, k.keep.row h5⟩
  | .ptr s b i j, u, _, _, k, h => by
    simp only [C.rep] at h ⊢
    obtain ⟨g, h1, h2⟩ := h
    exact ⟨g, k.map b g h1, h2⟩
  | .fn f caps, u, _, _, k, h => by
    simp only [C.rep] at h ⊢
    obtain ⟨arr, h1, h2⟩ := h
    exact ⟨arr, h1, C.repl.carry k h2⟩
theorem C.reps.carry {K L L' : List Nat} {w w' : World} : ∀ {cs : List C} {b off : Nat} {μ μ' : List Nat} (_ : Carry K L L' μ μ' w w'), b ∉ K → C.reps L μ w cs b off → C.reps L' μ' w' cs b off
  | [], _, _, _, _, _, _, _ => by simp [C.reps]
  | c :: cs, b, off, _, _, k, hb, h => by
    simp only [C.reps] at h ⊢
    obtain ⟨⟨u, h1, h2⟩, h3⟩ := h
    exact ⟨⟨u, k.keep.cell hb h1, C.rep.carry k h2⟩, C.reps.carry k hb h3⟩
theorem C.repss.carry {K L L' : List Nat} {w w' : World} : ∀ {s : Nat} {rows : List (List C)} {b off : Nat} {μ μ' : List Nat} (_ : Carry K L L' μ μ' w w'), b ∉ K → C.repss L μ w s rows b off → C.repss L' μ' w' s rows b off
  | _, [], _, _, _, _, _, _, _ => by simp [C.repss]
  | s, r :: rows, b, off, _, _, k, hb, h => by
    simp only [C.repss] at h ⊢
    exact ⟨h.1, C.reps.carry k hb h.2.1, C.repss.carry k hb h.2.2⟩
theorem C.repl.carry {K L L' : List Nat} {w w' : World} : ∀ {cs : List C} {us : List Value} {μ μ' : List Nat} (_ : Carry K L L' μ μ' w w'), C.repl L μ w cs us → C.repl L' μ' w' cs us
  | [], us, _, _, k, h => by simpa [C.repl] using h
  | c :: cs, us, _, _, k, h => by
    simp only [C.repl] at h ⊢
    obtain ⟨u, us', h1, h2, h3⟩ := h
    exact ⟨u, us', h1, C.rep.carry k h2, C.repl.carry k h3⟩
end

theorem C.rep_one {L μ : List Nat} {w : World} : ∀ {c : C} {u : Value}, C.rep L μ w c u → u.oneCell' = true
  | .top, u, h => by simpa [C.rep] using h
  | .sc v, u, h => by simp only [C.rep] at h; exact h.2
  | .sl rows, u, h => by simp only [C.rep] at h; obtain ⟨p, cap, e, _⟩ := h; rw [e]; rfl
  | .cur cs j, u, h => by simp only [C.rep] at h; obtain ⟨p, cap, e, _⟩ := h; rw [e]; rfl
  | .row s b n, u, h => by simp only [C.rep] at h; obtain ⟨p, cap, _, e, _⟩ := h; rw [e]; rfl
  | .ptr s b i j, u, h => by simp only [C.rep] at h; obtain ⟨p, _, e⟩ := h; rw [e]; rfl
  | .fn f caps, u, h => by simp only [C.rep] at h; obtain ⟨p, e, _⟩ := h; rw [e]; rfl

mutual
def AV.rep (L μ : List Nat) (w : World) : AV → Value → Prop
  | .one c, u => C.rep L μ w c u
  | .agg cs, u => ∃ arr : Array Value, u = .agg arr ∧ C.repl L μ w cs arr.toList
  | .tup vs, u => ∃ arr : Array Value, u = .tuple arr ∧ AV.repl L μ w vs arr.toList
def AV.repl (L μ : List Nat) (w : World) : List AV → List Value → Prop
  | [], us => us = []
  | v :: vs, us => ∃ u us', us = u :: us' ∧ AV.rep L μ w v u ∧ AV.repl L μ w vs us'
end
mutual
theorem AV.rep.carry {K L L' μ μ' : List Nat} {w w' : World} (k : Carry K L L' μ μ' w w') : ∀ {v : AV} {u : Value}, AV.rep L μ w v u → AV.rep L' μ' w' v u
  | .one c, u, h => by simp only [AV.rep] at h ⊢; exact C.rep.carry k h
  | .agg cs, u, h => by
    simp only [AV.rep] at h ⊢
    obtain ⟨arr, h1, h2⟩ := h
    exact ⟨arr, h1, C.repl.carry k h2⟩
  | .tup vs, u, h => by
    simp only [AV.rep] at h ⊢
    obtain ⟨arr, h1, h2⟩ := h
    exact ⟨arr, h1, AV.repl.carry k h2⟩
theorem AV.repl.carry {K L L' μ μ' : List Nat} {w w' : World} (k : Carry K L L' μ μ' w w') : ∀ {vs : List AV} {us : List Value}, AV.repl L μ w vs us → AV.repl L' μ' w' vs us
  | [], us, h => by simpa [AV.repl] using h
  | v :: vs, us, h => by
    simp only [AV.repl] at h ⊢
    obtain ⟨u, us', h1, h2, h3⟩ := h
    exact ⟨u, us', h1, AV.rep.carry k h2, AV.repl.carry k h3⟩
end

/-! ### own blocks -/

/-- where the blocks are that may still be written -/
def alive : List Nat → List Blk → List Nat
  | g :: μ, b :: H => if b.st.isMut then g :: alive μ H else alive μ H
  | _, _ => []

theorem mem_alive {x : Nat} : ∀ {μ : List Nat} {H : List Blk}, x ∈ alive μ H ↔ ∃ (i : Nat) (b : Blk), μ[i]? = some x ∧ H[i]? = some b ∧ b.st.isMut = true
  | [], H => by simp [alive]
  | g :: μ, [] => by simp [alive]
  | g :: μ, b :: H => by
    have ih := mem_alive (x := x) (μ := μ) (H := H)
    simp only [alive]
    constructor
    · intro h
      split at h
      · rename_i hm
        rcases List.mem_cons.1 h with rfl | h
        · exact ⟨0, b, rfl, rfl, hm⟩
        · obtain ⟨i, b', h1, h2, h3⟩ := ih.1 h; exact ⟨i + 1, b', h1, h2, h3⟩
      · obtain ⟨i, b', h1, h2, h3⟩ := ih.1 h; exact ⟨i + 1, b', h1, h2, h3⟩
    · rintro ⟨i, b', h1, h2, h3⟩
      cases i with
      | zero => simp at h1 h2; subst h1 h2; simp [h3]
      | succ i =>
        have := ih.2 ⟨i, b', by simpa using h1, by simpa using h2, h3⟩
        split <;> simp [this]

/-- cells, in a row of memory -/
def Laid (L μ : List Nat) (w : World) (cur : Array Value) (s : Nat) (rows : List (List C)) : Prop :=
  ∀ (i : Nat) (r : List C), rows[i]? = some r → r.length = s ∧ ∀ (j : Nat) (c : C), r[j]? = some c → ∃ u, cur[i * s + j]? = some u ∧ C.rep L μ w c u

theorem Laid.carry {K L L' μ μ' : List Nat} {w w' : World} {cur : Array Value} {s : Nat} {rows : List (List C)} (k : Carry K L L' μ μ' w w') (h : Laid L μ w cur s rows) : Laid L' μ' w' cur s rows := by
  intro i r hr
  obtain ⟨h1, h2⟩ := h i r hr
  exact ⟨h1, fun j c hc => let ⟨u, hu, hv⟩ := h2 j c hc; ⟨u, hu, C.rep.carry k hv⟩⟩

structure Sim (X μ : List Nat) (H : List Blk) (w : World) : Prop where
  len : μ.length = H.length
  lt : ∀ g ∈ μ, g < w.heap.size
  xlt : ∀ g ∈ X, g < w.heap.size
  out : ∀ (i : Nat) (b : Blk) (g : Nat), H[i]? = some b → b.st.known = true → μ[i]? = some g → g ∉ X
  inj : ∀ (i j : Nat) (b b' : Blk) (g : Nat), i ≠ j → H[i]? = some b → H[j]? = some b' → b.st.isMut = true → b'.st.known = true → μ[i]? = some g → μ[j]? ≠ some g
  blk : ∀ (i : Nat) (b : Blk) (g : Nat), H[i]? = some b → b.st.known = true → μ[i]? = some g → ∃ cur, w.heap[g]? = some (.cells cur b.ty (0, 0)) ∧ Laid (X ++ alive μ H) μ w cur b.s b.rows

/-- the change from one state of the own blocks to a later one -/
structure Stp (μ : List Nat) (H : List Blk) (w : World) (μ' : List Nat) (H' : List Blk) (w' : World) : Prop where
  keep : Keep (alive μ H) w w'
  map : ∀ (b g : Nat), μ[b]? = some g → μ'[b]? = some g
  old : ∀ g ∈ alive μ' H', g < w.heap.size → g ∈ alive μ H

theorem Stp.refl (μ : List Nat) (H : List Blk) (w : World) : Stp μ H w μ H w := ⟨Keep.refl _ _, fun _ _ h => h, fun _ h _ => h⟩
theorem Stp.trans {μ μ1 μ2 : List Nat} {H H1 H2 : List Blk} {w w1 w2 : World} (h : Stp μ H w μ1 H1 w1) (k : Stp μ1 H1 w1 μ2 H2 w2) : Stp μ H w μ2 H2 w2 :=
  ⟨h.keep.trans k.keep (fun x hx hl => h.old x hx hl), fun b g e => k.map b g (h.map b g e), fun g hg hl => h.old g (k.old g hg (Nat.lt_of_lt_of_le hl h.keep.size)) hl⟩
theorem Stp.carry {X μ μ' : List Nat} {H H' : List Blk} {w w' : World} (h : Stp μ H w μ' H' w') : Carry (alive μ H) (X ++ alive μ H) (X ++ alive μ' H') μ μ' w w' :=
  ⟨h.keep, fun x _ hx => fun hm => hx (by simp [hm]), fun x hl hx => by
    simp only [List.mem_append, not_or] at hx ⊢
    exact ⟨hx.1, fun hm => hx.2 (h.old x hm hl)⟩, h.map⟩

theorem known_of_mut {q : Blk} (hq : q.st.isMut = true) : q.st.known = true := by cases hst : q.st <;> simp [St.isMut, St.known, hst] at hq ⊢
theorem Carry.any {L μ : List Nat} {w : World} : Carry [] L L [] μ w w := ⟨Keep.refl _ _, fun _ _ _ => by simp, fun _ _ h => h, fun b g h => by simp at h⟩
theorem Sim.get {X μ : List Nat} {H : List Blk} {w : World} (h : Sim X μ H w) {b : Nat} {k : Blk} (hb : H[b]? = some k) : ∃ g, μ[b]? = some g ∧ g < w.heap.size := by
  have hlt : b < μ.length := by rw [h.len]; exact (List.getElem?_eq_some_iff.1 hb).1
  exact ⟨μ[b], List.getElem?_eq_getElem hlt, h.lt _ (List.getElem_mem hlt)⟩
theorem Sim.aliveLt {X μ : List Nat} {H : List Blk} {w : World} (h : Sim X μ H w) {g : Nat} (hg : g ∈ alive μ H) : g < w.heap.size := by
  obtain ⟨i, b, h1, _, _⟩ := mem_alive.1 hg
  exact h.lt g (List.mem_of_getElem? h1)
end Go.Proofs.Sh
