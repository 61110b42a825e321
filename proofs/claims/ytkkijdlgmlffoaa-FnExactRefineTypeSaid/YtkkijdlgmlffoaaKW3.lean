/- Texts of the proof, one behind another. -/
import Derived.Test.YtkkijdlgmlffoaaKW2
set_option linter.unusedSimpArgs false
set_option linter.unusedVariables false
/- Operations that make or write memory. -/
namespace Go.Proofs.Sh
open Go.RowKit

/-- the operation yields a value with this shadow, and the own blocks are then as h' says -/
def OpOK (P : Program) (X μ : List Nat) (s : ASt) (a : Act) (w : World) (o : Oper) (v : AV) (h' : List Blk) : Prop :=
  ∃ u w' μ', (execOp a.eval o).run P w = .ok (.value u) w' ∧ Sim X μ' h' w' ∧ Stp μ s.h w μ' h' w' ∧ AV.rep (X ++ alive μ' h') μ' w' v u

/-- .. and only new memory is written -/
def OpNew (P : Program) (X μ : List Nat) (s : ASt) (a : Act) (w : World) (o : Oper) (v : AV) (h' : List Blk) : Prop :=
  ∃ u w' μ', (execOp a.eval o).run P w = .ok (.value u) w' ∧ Sim X μ' h' w' ∧ Stp μ s.h w μ' h' w' ∧ AV.rep (X ++ alive μ' h') μ' w' v u ∧ Keep [] w w'

section
variable {P : Program} {X μ : List Nat} {s : ASt} {a : Act} {w : World} {o : Oper} {L : List Nat}

theorem OpNew.ok {v : AV} {h' : List Blk} (h : OpNew P X μ s a w o v h') : OpOK P X μ s a w o v h' :=
  let ⟨u, w', μ', h1, h2, h3, h4, _⟩ := h; ⟨u, w', μ', h1, h2, h3, h4⟩
theorem OpOK.of_pure {v : AV} (hF : SimF X μ s a w) (h : ∃ u, PureV P o a u ∧ AV.rep (X ++ alive μ s.h) μ w v u) : OpOK P X μ s a w o v s.h :=
  let ⟨u, h1, h2⟩ := h; ⟨u, w, μ, h1 w, hF.sim, Stp.refl _ _ _, h2⟩

theorem sim_ptr {μ : List Nat} {H : List Blk} {w w' : World} {n : Nat} (hl : μ.length = H.length) : AV.rep L (μ ++ [w.heap.size]) w' (.one (.ptr n H.length 0 0)) (.pointer (some ⟨w.heap.size, 0, none⟩)) := by
  simp only [AV.rep, C.rep]
  exact ⟨w.heap.size, getElem?_snoc.2 (.inr ⟨hl.symm, rfl⟩), by simp⟩

theorem op_alloc {t : TypeId} {ti : TI} (ho : o.op = .alloc t) (hF : SimF X μ s a w) (hti : tinfo P t = some ti) : OpNew P X μ s a w o (.one (.ptr ti.size s.h.length 0 0)) (s.h ++ [⟨ti.size, t, .mut, [ti.zero.map .sc]⟩]) := by
  obtain ⟨i, d, z, hi, hd, hz, hzc, hzs, rfl⟩ := tinfo_spec hti
  have hrun : (execOp a.eval o).run P w = .ok (.value (.pointer (some ⟨w.heap.size, 0, none⟩))) (w.alloc (.cells z.cells t)) := by
    simp [execOp, ho, Instr.alloc, run_zeroValue' hi hz, newVar, newRow]
  have hl : Laid (X ++ alive μ s.h) μ w z.cells i.size [z.cells.toList.map .sc] := by
    have := Laid.one (L := X ++ alive μ s.h) (μ := μ) (w := w) (C.repl_sc hzc)
    simpa [hzs] using this
  obtain ⟨h1, h2⟩ := hF.sim.new (Keep.alloc _ w _) (heap_alloc_new w _) (ty := t) hl
  exact ⟨_, _, _, hrun, h1, h2, sim_ptr hF.sim.len, Keep.alloc _ _ _⟩

theorem op_box {t : TypeId} {x : Operand} {cs : List C} (ho : o.op = .box t x) (hF : SimF X μ s a w) (hx : (s.eval x).bind AV.cells = some cs) : OpNew P X μ s a w o (.one (.ptr cs.length s.h.length 0 0)) (s.h ++ [⟨cs.length, t, .mut, [cs]⟩]) := by
  have hr := bind_cells (a := a) (fun o v hv => hF.eval hv) hx
  have hrun : (execOp a.eval o).run P w = .ok (.value (.pointer (some ⟨w.heap.size, 0, none⟩))) (w.alloc (.cells (a.eval x).cells t)) := by
    simp [execOp, ho, Instr.box, newVar, newRow]
  obtain ⟨h1, h2⟩ := hF.sim.new (Keep.alloc _ w _) (heap_alloc_new w _) (ty := t) (Laid.one hr)
  exact ⟨_, _, _, hrun, h1, h2, sim_ptr hF.sim.len, Keep.alloc _ _ _⟩

theorem op_build {t : TypeId} {parts : Array (Nat × Operand)} {v : AV} (ho : o.op = .build t parts) (hF : SimF X μ s a w) (hv : abuild P t (parts.toList.map fun p => (p.1, s.eval p.2)) = some v) : ∃ u, PureV P o a u ∧ AV.rep (X ++ alive μ s.h) μ w v u := by
  unfold abuild at hv
  split at hv
  · rename_i ti hti
    obtain ⟨i, d, z, hi, hd, hz, hzc, hzs, rfl⟩ := tinfo_spec hti
    split at hv
    · rename_i hk
      simp only at hk
      obtain ⟨hk, _⟩ := hk
      obtain ⟨fs, rfl⟩ := tkind_struct (tkindP_eq hk (by decide))
      split at hv
      · rename_i cs hcs
        cases hv
        have hall : ∀ f ∈ fs.toList, ∃ i, P.info? f.type = some i ∧ (tfield P f).1 = f.offset ∧ (tfield P f).2.1 = i.size := by
          intro f hf
          have h9 : ((tfields P (.struct fs)).all (fun f => f.2.1 != 0)) = true := by
            unfold tkindP at hk
            split at hk
            · assumption
            · cases hk
          have h1 := List.all_eq_true.1 h9 (tfield P f) (by simp only [tfields]; exact List.mem_map_of_mem hf)
          unfold tfield at h1 ⊢
          split at h1
          · rename_i d' hd'
            simp only [bne_iff_ne, ne_eq] at h1
            unfold Program.cellsOf at h1
            cases hi' : P.info? f.type with
            | none => rw [hi'] at h1; simp at h1
            | some i' => exact ⟨i', rfl, rfl, by simp [Program.cellsOf, hi']⟩
          · simp at h1
        have hpl : ∀ (l : List Field), (∀ f ∈ l, ∃ i, P.info? f.type = some i ∧ (tfield P f).1 = f.offset ∧ (tfield P f).2.1 = i.size) →
            l.mapM (fun f => (P.info? f.type).map fun i => (f.offset, i.size)) = some (l.map fun f => ((tfield P f).1, (tfield P f).2.1)) := by
          intro l
          induction l with
          | nil => intro _; rfl
          | cons f l ih =>
            intro h
            obtain ⟨i, h1, h2, h3⟩ := h f (by simp)
            simp [List.mapM_cons, h1, ih (fun f hf => h f (by simp [hf])), h2, h3]
        have hplaces := hpl fs.toList hall
        obtain ⟨cells', h1, h2⟩ := fill_sound (a := a) (place := ((fs.toList.map fun f => ((tfield P f).1, (tfield P f).2.1)).toArray[·]?)) (fun f off size g hf => by
          simp only [tfields, List.getElem?_map, Option.map_eq_some_iff] at hf
          obtain ⟨fl, h1, h2⟩ := hf
          simp [h1, h2]) (fun o v hv => hF.eval hv) parts.toList _ cs z.cells hcs (C.repl_sc hzc)
        have hb : P.built t (parts.map fun (i, x) => (i, a.eval x)).toList = some cells' := by
          unfold Program.built
          simp only [hi, hd, hz, hplaces]
          simpa using h1
        exact ⟨.agg cells', fun w => by simp only [execOp, ho, Sem.run_bind, run_build w t _ cells' hb, Result.andThen_ok, Sem.run_pure], by simp only [AV.rep]; exact ⟨_, rfl, h2⟩⟩
      · cases hv
    · cases hv
  · cases hv

/-! ### reading -/
theorem acells_spec {p : C} {cs : List C} {u : Value} (hS : Sim X μ s.h w) (h : acells s.h p = some cs) (hp : C.rep (X ++ alive μ s.h) μ w p u) :
    ∃ g off, u = .pointer (some ⟨g, off, none⟩) ∧ g < w.heap.size ∧ (g ∉ X ++ alive μ s.h ∨ ∃ n b i j k, p = .ptr n b i j ∧ μ[b]? = some g ∧ s.h[b]? = some k ∧ k.st.known = true) ∧
      ∀ (j : Nat) (c : C), cs[j]? = some c → ∃ v, w.cell? ⟨g, off + j, none⟩ = some v ∧ C.rep (X ++ alive μ s.h) μ w c v := by
  unfold acells at h
  split at h
  · cases h
    simp only [C.rep] at hp
    obtain ⟨b, off, rfl, hlt, hb, hr⟩ := hp
    refine ⟨b, _, rfl, hlt, .inl hb, fun j c hj => ?_⟩
    rw [List.getElem?_drop] at hj
    obtain ⟨v, h1, h2⟩ := C.reps_get hr _ c hj
    exact ⟨v, by rw [Nat.add_assoc]; exact h1, C.rep.carry Carry.any h2⟩
  · rename_i n b i j
    split at h
    · rename_i k hb
      split at h
      · rename_i hk
        obtain ⟨hk, rfl⟩ := hk
        split at h
        · rename_i r hr
          cases h
          simp only [C.rep] at hp
          obtain ⟨g, hg, rfl⟩ := hp
          obtain ⟨cur, hc, hl⟩ := hS.blk b _ g hb hk hg
          obtain ⟨hrl, hrr⟩ := hl i r hr
          refine ⟨g, _, rfl, hS.lt g (List.mem_of_getElem? hg), .inr ⟨_, b, i, j, k, rfl, hg, hb, hk⟩, fun j' c hj => ?_⟩
          rw [List.getElem?_drop] at hj
          obtain ⟨v, h1, h2⟩ := hrr _ c hj
          exact ⟨v, by simp only [World.cell?, hc, Nat.add_assoc]; simpa using h1, h2⟩
        · cases h
      · cases h
    · cases h
  · cases h

/-- a read: of which block, and what it yields in every world that has this block as it is -/
theorem op_load {t : TypeId} {x : Operand} {p : C} {v : AV} (ho : o.op = .load t x) (hF : SimF X μ s a w) (hx : s.eval x = some (.one p)) (hv : aload P s.h t p = some v) :
    ∃ g u, g < w.heap.size ∧ (g ∉ X ++ alive μ s.h ∨ ∃ n b i j k, p = .ptr n b i j ∧ μ[b]? = some g ∧ s.h[b]? = some k ∧ k.st.known = true) ∧
      (∀ w2 : World, w2.heap[g]? = w.heap[g]? → (execOp a.eval o).run P w2 = .ok (.value u) w2) ∧ AV.rep (X ++ alive μ s.h) μ w v u := by
  have hp := hF.eval hx
  simp only [AV.rep] at hp
  unfold aload at hv
  split at hv
  · rename_i ti cs hti hcs
    obtain ⟨i, d, z, hi, hd, hz, hzc, hzs, rfl⟩ := tinfo_spec hti
    obtain ⟨g, off, he, hlt, hor, hc⟩ := acells_spec hF.sim hcs hp
    simp only at hv
    split at hv
    · rename_i hag
      split at hv
      · rename_i hsz
        cases hv
        have hex : ∃ us : List Value, C.repl (X ++ alive μ s.h) μ w (cs.take i.size) us ∧ ∀ (j : Nat) (u : Value), us[j]? = some u → w.cell? ⟨g, off + j, none⟩ = some u := by
          have : C.reps (X ++ alive μ s.h) μ w (cs.take i.size) g off := C.reps_of (fun j c hj => by
            rw [List.getElem?_take] at hj
            split at hj
            · exact hc j c hj
            · cases hj)
          exact C.reps_vals this
        obtain ⟨us, hus, hcell⟩ := hex
        have hul : us.length = i.size := by rw [C.repl_length hus]; simp; omega
        refine ⟨g, .agg us.toArray, hlt, hor, fun w2 hw2 => ?_, by simp only [AV.rep]; exact ⟨_, rfl, by simpa using hus⟩⟩
        have hcell2 : ∀ (j : Nat) (u : Value), us[j]? = some u → w2.cell? ((⟨g, off, none⟩ : Addr).add j) = some u := fun j u hj => by
          rw [addr_add, World.cell?_of_block (w := w) (w' := w2) (a := ⟨g, off + j, none⟩) hw2]
          exact hcell j u hj
        have hl := run_loadCells_list (P := P) (w := w2) ⟨g, off, none⟩ us hcell2
        simp only [execOp, ho, he, Instr.loadAt, Instr.sureAddr, loadVar, Sem.run_bind, Sem.run_pure, Result.andThen_ok, run_isAgg' hd, hag, if_true, run_sizeOf' hi, ← hul, hl]
      · cases hv
    · rename_i hag
      split at hv
      · rename_i c hc0
        cases hv
        obtain ⟨u, hu, hr⟩ := hc 0 c hc0
        refine ⟨g, u, hlt, hor, fun w2 hw2 => ?_, by simp only [AV.rep]; exact hr⟩
        have hcell2 : w2.cell? ⟨g, off, none⟩ = some u := by
          rw [World.cell?_of_block (w := w) (w' := w2) (a := ⟨g, off, none⟩) hw2]
          simpa using hu
        have hag' : tagg d = false := by simpa using hag
        simp [execOp, ho, he, Instr.loadAt, Instr.sureAddr, loadVar, run_isAgg' hd, hag', hcell2]
      · cases hv
  · cases hv
end

theorem set_get {H : List Blk} {b i : Nat} {k k' x : Blk} (hb : H[b]? = some k) : (H.set b k')[i]? = some x ↔ (i = b ∧ x = k') ∨ (i ≠ b ∧ H[i]? = some x) := by
  have hlt := (List.getElem?_eq_some_iff.1 hb).1
  rw [List.getElem?_set]
  by_cases h : b = i
  · subst h; simp [hlt, eq_comm]
  · rw [if_neg h]; simp [Ne.symm h]
theorem mem_alive_set {μ : List Nat} {H : List Blk} {b x : Nat} {k k' : Blk} (hb : H[b]? = some k) (hst : k'.st.isMut = k.st.isMut) : x ∈ alive μ (H.set b k') ↔ x ∈ alive μ H := by
  rw [mem_alive, mem_alive]
  constructor
  · rintro ⟨i, q, h1, h2, h3⟩
    rcases (set_get hb).1 h2 with ⟨rfl, rfl⟩ | ⟨_, h2⟩
    · exact ⟨i, k, h1, hb, by rw [← hst]; exact h3⟩
    · exact ⟨i, q, h1, h2, h3⟩
  · rintro ⟨i, q, h1, h2, h3⟩
    by_cases hi : i = b
    · subst hi
      rw [hb] at h2
      cases h2
      exact ⟨i, k', h1, (set_get hb).2 (.inl ⟨rfl, rfl⟩), by rw [hst]; exact h3⟩
    · exact ⟨i, q, h1, (set_get hb).2 (.inr ⟨hi, h2⟩), h3⟩

/-- a store into an own block -/
theorem Sim.set {X μ : List Nat} {H : List Blk} {w : World} {b g : Nat} {k : Blk} {cur cur' : Array Value} {rows : List (List C)} (h : Sim X μ H w) (hb : H[b]? = some k) (hm : k.st.isMut = true) (hg : μ[b]? = some g)
    (hc : w.heap[g]? = some (.cells cur k.ty (0, 0))) (hsz : cur'.size = cur.size) (hl : Laid (X ++ alive μ H) μ w cur' k.s rows) :
    Sim X μ (H.set b ⟨k.s, k.ty, k.st, rows⟩) (w.setRow g cur') ∧ Stp μ H w μ (H.set b ⟨k.s, k.ty, k.st, rows⟩) (w.setRow g cur') := by
  have hga : g ∈ alive μ H := mem_alive.2 ⟨b, k, hg, hb, hm⟩
  have hK := Keep.setRow (w := w) hga hc hsz
  have hmem : ∀ x, x ∈ alive μ (H.set b ⟨k.s, k.ty, k.st, rows⟩) ↔ x ∈ alive μ H := fun x => mem_alive_set hb rfl
  have hS : Stp μ H w μ (H.set b ⟨k.s, k.ty, k.st, rows⟩) (w.setRow g cur') := ⟨hK, fun _ _ e => e, fun x hx _ => (hmem x).1 hx⟩
  have hsize : (w.setRow g cur').heap.size = w.heap.size := by simp [World.setRow]
  refine ⟨⟨by simp [h.len], fun x hx => by rw [hsize]; exact h.lt x hx, fun x hx => by rw [hsize]; exact h.xlt x hx, ?_, ?_, ?_⟩, hS⟩
  · intro i q gg hi hq hgi
    rcases (set_get hb).1 hi with ⟨rfl, rfl⟩ | ⟨_, hi⟩
    · exact h.out i k gg hb hq hgi
    · exact h.out i q gg hi hq hgi
  · intro i j q q' gg hij hi hj hq hq' hgi hgj
    have get : ∀ (i : Nat) (q : Blk), (H.set b ⟨k.s, k.ty, k.st, rows⟩)[i]? = some q → ∃ q0, H[i]? = some q0 ∧ q0.st = q.st := fun i q hi => by
      rcases (set_get hb).1 hi with ⟨rfl, rfl⟩ | ⟨_, hi⟩
      · exact ⟨k, hb, rfl⟩
      · exact ⟨q, hi, rfl⟩
    obtain ⟨a1, e1, e2⟩ := get i q hi
    obtain ⟨a2, e3, e4⟩ := get j q' hj
    exact h.inj i j a1 a2 gg hij e1 e3 (by rw [e2]; exact hq) (by rw [e4]; exact hq') hgi hgj
  · intro i q gg hi hq hgi
    rcases (set_get hb).1 hi with ⟨rfl, rfl⟩ | ⟨hne, hi⟩
    · rw [hg] at hgi; cases hgi
      exact ⟨cur', setRow_heap w g cur cur' _ _ hc, hl.carry hS.carry⟩
    · obtain ⟨c, hc', hl'⟩ := h.blk i q gg hi hq hgi
      have hne2 : gg ≠ g := fun e => by subst e; exact h.inj b i k q gg (Ne.symm hne) hb hi hm hq hg hgi
      exact ⟨c, by rw [setRow_other w g gg _ hne2]; exact hc', hl'.carry hS.carry⟩

theorem repl_at (cur : Array Value) (o : Nat) (vs : List Value) (m : Nat) (hfit : o + vs.length ≤ cur.size) : ((cur.toList.take o ++ vs ++ cur.toList.drop (o + vs.length)).toArray)[m]? = if o ≤ m ∧ m < o + vs.length then vs[m - o]? else cur[m]? := by
  rw [List.getElem?_toArray]
  by_cases h1 : m < o
  · rw [List.getElem?_append_left (by simp; omega), List.getElem?_append_left (by simp; omega), List.getElem?_take, if_pos h1, if_neg (by omega), Array.getElem?_toList]
  · by_cases h2 : m < o + vs.length
    · rw [List.getElem?_append_left (by simp; omega), List.getElem?_append_right (by simp; omega), if_pos (by omega)]; congr 1; simp; omega
    · rw [List.getElem?_append_right (by simp; omega), List.getElem?_drop, if_neg (by omega), Array.getElem?_toList]; congr 1; simp; omega
theorem splice_get {r cs : List C} {j n : Nat} (hl : j + cs.length ≤ r.length) : (splice r j cs)[n]? = if j ≤ n ∧ n < j + cs.length then cs[n - j]? else r[n]? := by
  unfold splice
  by_cases h1 : n < j
  · rw [List.getElem?_append_left (by simp; omega), List.getElem?_take, if_pos h1, if_neg (by omega)]
  · rw [List.getElem?_append_right (by simp; omega)]
    by_cases h2 : n < j + cs.length
    · rw [List.getElem?_append_left (by simp; omega), if_pos (by omega)]; congr 1; simp; omega
    · rw [List.getElem?_append_right (by simp; omega), List.getElem?_drop, if_neg (by omega)]; congr 1; simp; omega
theorem splice_length {r cs : List C} {j : Nat} (hl : j + cs.length ≤ r.length) : (splice r j cs).length = r.length := by
  unfold splice; simp; omega

section
variable {P : Program} {X μ : List Nat} {s : ASt} {a : Act} {w : World} {o : Oper} {L : List Nat}

theorem op_store {t : TypeId} {x y : Operand} {p : C} {v : AV} {h' : List Blk} (ho : o.op = .store t x y) (hF : SimF X μ s a w) (hx : s.eval x = some (.one p)) (hy : s.eval y = some v) (hv : astore P s.h t p v = some h') :
    ∃ w', (execOp a.eval o).run P w = .ok .skip w' ∧ (Sim X μ h' w' ∧ Stp μ s.h w μ h' w') ∧ ∀ n b i j g, p = .ptr n b i j → μ[b]? = some g → Keep [g] w w' := by
  have hp := hF.eval hx
  have hval := hF.eval hy
  unfold astore at hv
  split at hv
  · rename_i ti n b i j cs hti hcs
    obtain ⟨it, d, z, hi, hd, hz, hzc, hzs, rfl⟩ := tinfo_spec hti
    split at hv
    · rename_i k hb
      split at hv
      · rename_i hk
        obtain ⟨hsz, hm, rfl⟩ := hk
        split at hv
        · rename_i r hr
          split at hv
          · rename_i hjl
            cases hv
            simp only [AV.rep, C.rep] at hp
            obtain ⟨g, hg, he⟩ := hp
            have hkn : k.st.known = true := by
              cases hst : k.st <;> simp [St.isMut, St.known, hst] at hm ⊢
            obtain ⟨cur, hc, hl⟩ := hF.sim.blk b k g hb hkn hg
            obtain ⟨hrl, hrr⟩ := hl i r hr
            have hvr := AV.rep_cells hcs hval
            have hvl := C.repl_length hvr
            have hvo := C.repl_one hvr
            simp only at hsz
            have hfit : i * k.s + j + (a.eval y).cells.toList.length ≤ cur.size := by
              rw [hvl]
              have hrs : 0 < r.length ∨ r.length = 0 := by omega
              rcases hrs with hrs | hrs
              · have : r.length - 1 < r.length := by omega
                obtain ⟨u, hu, _⟩ := hrr (r.length - 1) _ (List.getElem?_eq_getElem this)
                have := (Array.getElem?_eq_some_iff.1 hu).1
                omega
              · have h0 : k.s = 0 := by omega
                rw [h0]; simp; omega
            have hst := run_storeCells_at P g (i * k.s + j) k.ty (a.eval y).cells.toList 0 cur w hc (by simpa using hfit) hvo
            simp only [Nat.add_zero] at hst
            have hrun : (execOp a.eval o).run P w = .ok .skip (w.setRow g (cur.toList.take (i * k.s + j) ++ (a.eval y).cells.toList ++ cur.toList.drop (i * k.s + j + (a.eval y).cells.toList.length)).toArray) := by
              have : (a.eval y).cells.size = it.size := by simp only [Array.length_toList] at hvl; omega
              simp [execOp, ho, he, Instr.storeAt, Instr.sureAddr, storeVar, run_sizeOf' hi, this, hst]
            refine ⟨_, hrun, hF.sim.set hb hm hg hc (by simp at hfit ⊢; omega) ?_, fun n' b' i' j' g' e1 e2 => by cases e1; rw [hg] at e2; cases e2; exact Keep.setRow (by simp) hc (by simp at hfit ⊢; omega)⟩
            intro i' r' hr'
            have hlt := (List.getElem?_eq_some_iff.1 hr).1
            rw [List.getElem?_set] at hr'
            split at hr'
            · rename_i hii
              subst hii
              cases hr'
              refine ⟨by rw [splice_length hjl, hrl], fun m c hc' => ?_⟩
              rw [splice_get hjl] at hc'
              split at hc'
              · rename_i hm'
                obtain ⟨u, hu, hur⟩ := C.repl_get hvr _ c hc'
                refine ⟨u, ?_, hur⟩
                rw [repl_at _ _ _ _ hfit, if_pos (by omega), ← hu]
                congr 1; omega
              · rename_i hm'
                obtain ⟨u, hu, hur⟩ := hrr m c hc'
                refine ⟨u, ?_, hur⟩
                rw [repl_at _ _ _ _ hfit, if_neg (by omega)]
                exact hu
            · rename_i hii
              obtain ⟨q1, q2⟩ := hl i' r' hr'
              refine ⟨q1, fun m c hc' => ?_⟩
              obtain ⟨u, hu, hur⟩ := q2 m c hc'
              refine ⟨u, ?_, hur⟩
              have hml := (List.getElem?_eq_some_iff.1 hc').1
              rw [repl_at _ _ _ _ hfit, if_neg]
              · exact hu
              · intro ⟨b1, b2⟩
                rcases Nat.lt_or_gt_of_ne hii with hlt' | hgt
                · have := Nat.mul_le_mul_right k.s (show i + 1 ≤ i' by omega)
                  rw [Nat.succ_mul] at this
                  omega
                · have := Nat.mul_le_mul_right k.s (show i' + 1 ≤ i by omega)
                  rw [Nat.succ_mul] at this
                  omega
          · cases hv
        · cases hv
      · cases hv
    · cases hv
  · cases hv
end
end Go.Proofs.Sh
/- Slices: made, built, and grown. -/
namespace Go.Proofs.Sh
open Go.RowKit

theorem flatten_length {s : Nat} : ∀ {rows : List (List C)}, (∀ r ∈ rows, r.length = s) → rows.flatten.length = rows.length * s
  | [], _ => by simp
  | r :: rows, h => by
    rw [List.flatten_cons, List.length_append, h r (by simp), flatten_length (fun r hr => h r (by simp [hr])), List.length_cons, Nat.succ_mul]; omega
theorem flatten_set {s : Nat} {xs : List C} (hx : xs.length = s) : ∀ {rows : List (List C)} {i : Nat}, (∀ r ∈ rows, r.length = s) → i < rows.length → (rows.set i xs).flatten = splice rows.flatten (i * s) xs
  | [], i, _, hi => by simp at hi
  | r :: rows, 0, h, _ => by
    have := h r (by simp)
    simp only [List.set_cons_zero, List.flatten_cons, splice, Nat.zero_mul, List.take_zero, List.nil_append, Nat.zero_add, hx]
    rw [← this, List.drop_left]
  | r :: rows, i + 1, h, hi => by
    have h0 := h r (by simp)
    have ih := flatten_set hx (rows := rows) (i := i) (fun r hr => h r (by simp [hr])) (by simpa using hi)
    simp only [List.set_cons_succ, List.flatten_cons, ih]
    unfold splice
    rw [Nat.succ_mul, Nat.add_comm (i * s) s, ← h0, List.take_length_add_append, List.append_assoc, Nat.add_assoc, List.drop_length_add_append]
theorem flatten_replicate {l : List C} : ∀ (n j : Nat), (List.replicate n l).flatten[j]? = if j < n * l.length then l[j % l.length]? else none
  | 0, j => by simp
  | n + 1, j => by
    rw [List.replicate_succ, List.flatten_cons]
    by_cases hj : j < l.length
    · rw [List.getElem?_append_left hj, if_pos (by rw [Nat.succ_mul]; omega), Nat.mod_eq_of_lt hj]
    · rw [List.getElem?_append_right (by omega), flatten_replicate n]
      have e : (j - l.length) % l.length = j % l.length := (Nat.mod_eq_sub_mod (by omega)).symm
      rw [e]
      by_cases hk : j < (n + 1) * l.length
      · rw [if_pos hk, if_pos (by rw [Nat.succ_mul] at hk; omega)]
      · rw [if_neg hk, if_neg (by rw [Nat.succ_mul] at hk; omega)]

section
variable {P : Program} {X μ : List Nat} {s : ASt} {a : Act} {w : World} {o : Oper} {L : List Nat}

theorem zero_rows {z : Array Value} {n : Nat} (hz : ∀ u ∈ z.toList, u.oneCell' = true) (hs : 0 < z.size) : C.repl L μ w (List.replicate n (z.toList.map .sc)).flatten ((Array.range (n * z.size)).map (z[· % z.size]!)).toList := by
  have hl : (z.toList.map C.sc).length = z.size := by simp
  refine C.repl_of ?_ (fun j c u h1 h2 => ?_)
  · rw [flatten_length (s := z.size) (fun r hr => by rw [List.eq_of_mem_replicate hr, hl])]; simp
  · rw [flatten_replicate, hl] at h1
    split at h1
    · rename_i hj
      simp only [Array.toList_map, List.getElem?_map, Array.toList_range, List.getElem?_range hj, Option.map_some, Option.some.injEq] at h2
      have hm : j % z.size < z.size := Nat.mod_lt _ hs
      rw [List.getElem?_map, Array.getElem?_toList, Array.getElem?_eq_getElem hm] at h1
      simp only [Option.map_some, Option.some.injEq] at h1
      have e : z[j % z.size]! = z[j % z.size] := getElem!_pos z _ hm
      rw [e] at h2
      subst h1 h2
      simp only [C.rep, true_and]
      exact hz _ (by simp)
    · cases h1

theorem arow_sound {size : Nat} {L : List Nat} (he : ∀ o v, s.eval o = some v → AV.rep L μ w v (a.eval o)) :
    ∀ (parts : List (Nat × Operand)) (rows rows' : List (List C)) (cells : Array Value), arow size (parts.map fun p => (p.1, s.eval p.2)) rows = some rows' → (∀ r ∈ rows, r.length = size) → C.repl L μ w rows.flatten cells.toList →
      ∃ cells', Instr.fill (fun i => some (i * size, size)) cells (parts.map fun p => (p.1, a.eval p.2)) = some cells' ∧ C.repl L μ w rows'.flatten cells'.toList ∧ (∀ r ∈ rows', r.length = size) ∧ rows'.length = rows.length
  | [], rows, rows', cells, h, hl, hr => by
    simp only [List.map_nil, arow, Option.some.injEq] at h
    subst h
    exact ⟨cells, rfl, hr, hl, rfl⟩
  | (i, x) :: parts, rows, rows', cells, h, hl, hr => by
    simp only [List.map_cons, arow] at h
    split at h
    · rename_i xs hx
      split at h
      · rename_i hc
        obtain ⟨hxs, hi⟩ := hc
        have hxr := bind_cells (a := a) he hx
        have hxl := C.repl_length hxr
        have hcl := C.repl_length hr
        rw [flatten_length hl] at hcl
        have hfit : i * size + size ≤ rows.length * size := by
          have := Nat.mul_le_mul_right size (show i + 1 ≤ rows.length by omega)
          rwa [Nat.succ_mul] at this
        have hfold := fold_cells (i * size) (a.eval x).cells.toList cells (by simp only [Array.length_toList] at hcl hxl ⊢; omega)
        obtain ⟨cells', h1, h2, h3, h4⟩ := arow_sound he parts _ rows' ((a.eval x).cells.zipIdx.foldl (fun cs (x : Value × Nat) => cs.setIfInBounds (i * size + x.2) x.1) cells) h (by
            intro r hr
            rcases List.mem_or_eq_of_mem_set hr with hr | rfl
            · exact hl r hr
            · exact hxs) (by
          rw [show (a.eval x).cells.zipIdx.foldl (fun cs (x : Value × Nat) => cs.setIfInBounds (i * size + x.2) x.1) cells = (a.eval x).cells.toList.zipIdx.foldl (fun cs (x : Value × Nat) => cs.setIfInBounds (i * size + x.2) x.1) cells from by rw [← Array.toList_zipIdx, Array.foldl_toList], hfold, flatten_set hxs hl hi]
          exact C.repl_splice hr hxr (i * size))
        refine ⟨cells', ?_, h2, h3, by rw [h4]; simp⟩
        have hxs2 : (a.eval x).cells.size = size := by simp only [Array.length_toList] at hxl; omega
        simp only [List.map_cons, Instr.fill]
        rw [if_neg (by simp only [Array.length_toList] at hcl; simp; omega)]
        exact h1
      · cases h
    · cases h

theorem rep_row_new {μ : List Nat} {H : List Blk} {w w' : World} {n c sz : Nat} (hl : μ.length = H.length) (hc : n ≤ c) (hm : c ≤ maxLen) (hr : RowAt w' w.heap.size (c * sz)) : AV.rep L (μ ++ [w.heap.size]) w' (.one (.row sz H.length n)) (.slice (some ⟨w.heap.size, 0, none⟩) n c) := by
  simp only [AV.rep, C.rep]
  exact ⟨w.heap.size, c, getElem?_snoc.2 (.inr ⟨hl.symm, rfl⟩), rfl, hc, hm, hr⟩

theorem op_buildSlice {t : TypeId} {len : Nat} {parts : Array (Nat × Operand)} {v : AV} {h' : List Blk} (ho : o.op = .buildSlice t len parts) (hF : SimF X μ s a w) (hv : abuildSlice P s.h t len (parts.toList.map fun p => (p.1, s.eval p.2)) = .val v h') : OpNew P X μ s a w o v h' := by
  unfold abuildSlice at hv
  split at hv
  · rename_i ti hti
    obtain ⟨i, d, z, hi, hd, hz, hzc, hzs, rfl⟩ := tinfo_spec hti
    split at hv
    · rename_i te hte
      obtain ⟨i', d', z', hi', hd', hz', hzc', hzs', rfl⟩ := tinfo_spec hte
      split at hv
      · rename_i hk
        simp only at hk hv
        obtain ⟨hk, _, hsm, hpos⟩ := hk
        obtain ⟨e, rfl⟩ := tkind_slice (tkindP_eq hk (by decide))
        simp only [telem] at hi' hv
        split at hv
        · rename_i rows hrows
          injection hv with hv1 hv2
          subst hv1 hv2
          have hzl : ∀ r ∈ List.replicate len (z'.cells.toList.map C.sc), r.length = i'.size := fun r hr => by rw [List.eq_of_mem_replicate hr]; simp [hzs']
          have hzr : C.repl (X ++ alive μ s.h) μ w (List.replicate len (z'.cells.toList.map C.sc)).flatten ((Array.range (len * i'.size)).map (z'.cells[· % z'.cells.size]!)).toList := by
            have := zero_rows (L := X ++ alive μ s.h) (μ := μ) (w := w) (z := z'.cells) (n := len) hzc' (by omega)
            rwa [hzs'] at this ⊢
          obtain ⟨cells', h1, h2, h3, h4⟩ := arow_sound (a := a) (fun o v hv => hF.eval hv) parts.toList _ rows _ hrows hzl hzr
          have h5 : rows.length = len := by rw [h4]; simp
          have hcs : cells'.size = len * i'.size := by
            have := C.repl_length h2
            rw [flatten_length h3, h5] at this
            simpa using this
          have hrun : (execOp a.eval o).run P w = .ok (.value (.slice (some ⟨w.heap.size, 0, none⟩) len len)) (w.alloc (.cells cells' e)) := by
            by_cases hl0 : len = 0
            · subst hl0
              have : cells' = #[] := Array.eq_empty_of_size_eq_zero (by simpa using hcs)
              subst this
              have hp0 : parts = #[] := by
                cases hpl : parts.toList with
                | nil => simpa using hpl
                | cons p l =>
                  rw [hpl] at hrows
                  simp only [List.map_cons, List.replicate_zero, arow] at hrows
                  split at hrows <;> simp at hrows
              subst hp0
              have hr0 : Array.range 0 = #[] := rfl
              simp [execOp, ho, Instr.buildSlice, run_underlying' hd, run_sizeOf' hi', newRow, Instr.fill, hr0]
            · have hb := run_buildSlice (P := P) w t e len (parts.map fun (i, x) => (i, a.eval x)) cells' i' z' hd hi' hz' (by omega) (by
                intro h0
                rcases Nat.mul_eq_zero.1 h0 with h0 | h0
                · exact hl0 h0
                · omega) (by simpa using h1)
              simp only [execOp, ho, Sem.run_bind, hb, Result.andThen_ok, Sem.run_pure]
          obtain ⟨q1, q2⟩ := hF.sim.new (Keep.alloc _ w _) (heap_alloc_new w _) (ty := e) (Laid.flat h3 h2 (fun j u hu => by simpa using hu))
          exact ⟨_, _, _, hrun, q1, q2, rep_row_new hF.sim.len (Nat.le_refl _) (by simp only [maxLen]; have := Nat.le_mul_of_pos_right len hpos; omega) ⟨cells', e, heap_alloc_new w _, hcs⟩, Keep.alloc _ _ _⟩
        · cases hv
      · cases hv
    · cases hv
  · cases hv

theorem op_makeSlice {t : TypeId} {x y : Operand} {vx vy v : AV} {h' : List Blk} (ho : o.op = .makeSlice t x y) (hF : SimF X μ s a w) (hx : s.eval x = some vx) (hy : s.eval y = some vy) (hv : amakeSlice P s.h t vx vy = .val v h') : OpNew P X μ s a w o v h' := by
  have h1 := hF.eval hx
  have h2 := hF.eval hy
  unfold amakeSlice at hv
  split at hv
  · rename_i ti k n k' c hti
    obtain ⟨i, d, z, hi, hd, hz, hzc, hzs, rfl⟩ := tinfo_spec hti
    split at hv
    · rename_i te hte
      obtain ⟨i', d', z', hi', hd', hz', hzc', hzs', rfl⟩ := tinfo_spec hte
      split at hv
      · rename_i hk
        simp only at hk hv
        obtain ⟨hk, _, hpos, hnc, hn0, hby, hmx⟩ := hk
        subst hnc
        obtain ⟨e, rfl⟩ := tkind_slice (tkindP_eq hk (by decide))
        simp only [telem] at hi' hv
        injection hv with hv1 hv2
        subst hv1 hv2
        have e1 := AV.sc_eq h1
        have e2 := AV.sc_eq h2
        have hmk := run_make (P := P) w t e i' z' hd hi' hz' k k' n n hn0 (Int.le_refl _) (by omega) (by omega)
        have hrun : (execOp a.eval o).run P w = .ok (.value (.slice (some ⟨w.heap.size, 0, none⟩) n.toNat n.toNat)) (w.alloc (.cells (madeCells z'.cells (n.toNat * i'.size)) e)) := by
          simp only [execOp, ho, e1, e2, Sem.run_bind, hmk, Result.andThen_ok, Sem.run_pure]
        have hzr : C.repl (X ++ alive μ s.h) μ w (List.replicate n.toNat (z'.cells.toList.map C.sc)).flatten (madeCells z'.cells (n.toNat * i'.size)).toList := by
          have := zero_rows (L := X ++ alive μ s.h) (μ := μ) (w := w) (z := z'.cells) (n := n.toNat) hzc' (by omega)
          rw [hzs'] at this
          rw [madeCells, hzs']
          exact this
        obtain ⟨q1, q2⟩ := hF.sim.new (Keep.alloc _ w _) (heap_alloc_new w _) (ty := e) (s := i'.size) (Laid.flat (fun r hr => by rw [List.eq_of_mem_replicate hr]; simp [hzs']) hzr (fun j u hu => by simpa using hu))
        exact ⟨_, _, _, hrun, q1, q2, rep_row_new hF.sim.len (Nat.le_refl _) (by simp only [maxLen]; omega) ⟨_, e, heap_alloc_new w _, size_madeCells _ _⟩, Keep.alloc _ _ _⟩
      · cases hv
    · cases hv
  · cases hv
end
end Go.Proofs.Sh
/- Append. -/
namespace Go.Proofs.Sh
open Go.RowKit

def Blk.dead (k : Blk) : Blk := ⟨k.s, k.ty, .dead, []⟩

/-- a block is forgotten -/
theorem Sim.kill {X μ : List Nat} {H : List Blk} {w : World} {b : Nat} {k : Blk} (h : Sim X μ H w) (hb : H[b]? = some k) : Sim X μ (H.set b k.dead) w ∧ Stp μ H w μ (H.set b k.dead) w := by
  have hmem : ∀ x, x ∈ alive μ (H.set b k.dead) → x ∈ alive μ H := fun x hx => by
    obtain ⟨i, q, h1, h2, h3⟩ := mem_alive.1 hx
    rcases (set_get hb).1 h2 with ⟨rfl, rfl⟩ | ⟨_, h2⟩
    · cases h3
    · exact mem_alive.2 ⟨i, q, h1, h2, h3⟩
  have hS : Stp μ H w μ (H.set b k.dead) w := ⟨Keep.refl _ _, fun _ _ e => e, fun x hx _ => hmem x hx⟩
  refine ⟨⟨by simp [h.len], h.lt, h.xlt, ?_, ?_, ?_⟩, hS⟩
  · intro i q g hi hq hg
    rcases (set_get hb).1 hi with ⟨rfl, rfl⟩ | ⟨_, hi⟩
    · cases hq
    · exact h.out i q g hi hq hg
  · intro i j q q' g hij hi hj hq hq' hgi hgj
    rcases (set_get hb).1 hi with ⟨rfl, rfl⟩ | ⟨_, hi⟩
    · cases hq
    · rcases (set_get hb).1 hj with ⟨rfl, rfl⟩ | ⟨_, hj⟩
      · cases hq'
      · exact h.inj i j q q' g hij hi hj hq hq' hgi hgj
  · intro i q g hi hq hg
    rcases (set_get hb).1 hi with ⟨rfl, rfl⟩ | ⟨_, hi⟩
    · cases hq
    · obtain ⟨c, h1, h2⟩ := h.blk i q g hi hq hg
      exact ⟨c, h1, h2.carry hS.carry⟩

/-- an own block is written, and goes by a new number -/
theorem Sim.regrow {X μ : List Nat} {H : List Blk} {w : World} {b g s : Nat} {k : Blk} {cur cur' : Array Value} {rows : List (List C)} (h : Sim X μ H w) (hb : H[b]? = some k) (hm : k.st.isMut = true) (hg : μ[b]? = some g)
    (hc : w.heap[g]? = some (.cells cur k.ty (0, 0))) (hsz : cur'.size = cur.size) (hl : Laid (X ++ alive μ H) μ w cur' s rows) :
    Sim X (μ ++ [g]) (H.set b k.dead ++ [⟨s, k.ty, .mut, rows⟩]) (w.setRow g cur') ∧ Stp μ H w (μ ++ [g]) (H.set b k.dead ++ [⟨s, k.ty, .mut, rows⟩]) (w.setRow g cur') := by
  have hga : g ∈ alive μ H := mem_alive.2 ⟨b, k, hg, hb, hm⟩
  have hK := Keep.setRow (w := w) hga hc hsz
  obtain ⟨hD, _⟩ := h.kill hb
  have hmem : ∀ x, x ∈ alive (μ ++ [g]) (H.set b k.dead ++ [⟨s, k.ty, .mut, rows⟩]) → x ∈ alive μ H := fun x hx => by
    rcases (mem_alive_snoc (b := ⟨s, k.ty, .mut, rows⟩) hD.len).1 hx with hx | ⟨rfl, _⟩
    · obtain ⟨i, q, h1, h2, h3⟩ := mem_alive.1 hx
      rcases (set_get hb).1 h2 with ⟨rfl, rfl⟩ | ⟨_, h2⟩
      · cases h3
      · exact mem_alive.2 ⟨i, q, h1, h2, h3⟩
    · exact hga
  have hS : Stp μ H w (μ ++ [g]) (H.set b k.dead ++ [⟨s, k.ty, .mut, rows⟩]) (w.setRow g cur') := ⟨hK, fun b g hb => getElem?_snoc.2 (.inl hb), fun x hx _ => hmem x hx⟩
  have hsize : (w.setRow g cur').heap.size = w.heap.size := by simp [World.setRow]
  have hlen := h.len
  refine ⟨⟨by simp [h.len], ?_, fun x hx => by rw [hsize]; exact h.xlt x hx, ?_, ?_, ?_⟩, hS⟩
  · intro x hx
    rw [hsize]
    rcases List.mem_append.1 hx with hx | hx
    · exact h.lt x hx
    · simp at hx; subst hx; exact h.lt _ (List.mem_of_getElem? hg)
  · intro i q gg hi hq hgi
    rw [getElem?_snoc] at hi hgi
    simp only [List.length_set] at hi
    rcases hgi with hgi | ⟨hgi, rfl⟩
    · rcases hi with hi | ⟨hi, rfl⟩
      · rcases (set_get hb).1 hi with ⟨rfl, rfl⟩ | ⟨_, hi⟩
        · cases hq
        · exact h.out i q gg hi hq hgi
      · have := (List.getElem?_eq_some_iff.1 hgi).1; omega
    · exact h.out b k gg hb (known_of_mut hm) hg
  · intro i j q q' gg hij hi hj hq hq' hgi hgj
    rw [getElem?_snoc] at hi hj hgi hgj
    simp only [List.length_set] at hi hj
    have old : ∀ (i : Nat) (q : Blk), (H.set b k.dead)[i]? = some q → q.st.known = true → i ≠ b ∧ H[i]? = some q := fun i q hi hq => by
      rcases (set_get hb).1 hi with ⟨rfl, rfl⟩ | hi
      · cases hq
      · exact hi
    have mk : ∀ q : Blk, q.st.isMut = true → q.st.known = true := fun q hq => by cases hst : q.st <;> simp [St.isMut, St.known, hst] at hq ⊢
    rcases hi with hi | ⟨hi, rfl⟩
    · obtain ⟨hib, hi⟩ := old i q hi (mk q hq)
      rcases hgi with hgi | ⟨hgi, rfl⟩
      · rcases hj with hj | ⟨hj, rfl⟩
        · obtain ⟨hjb, hj⟩ := old j q' hj hq'
          rcases hgj with hgj | ⟨hgj, rfl⟩
          · exact h.inj i j q q' gg hij hi hj hq hq' hgi hgj
          · have := (List.getElem?_eq_some_iff.1 hj).1; omega
        · rcases hgj with hgj | ⟨hgj, rfl⟩
          · have := (List.getElem?_eq_some_iff.1 hgj).1; omega
          · exact h.inj b i k q gg (Ne.symm hib) hb hi hm (mk q hq) hg hgi
      · have := (List.getElem?_eq_some_iff.1 hi).1; omega
    · rcases hgi with hgi | ⟨hgi, rfl⟩
      · have := (List.getElem?_eq_some_iff.1 hgi).1; omega
      · rcases hj with hj | ⟨hj, rfl⟩
        · obtain ⟨hjb, hj⟩ := old j q' hj hq'
          rcases hgj with hgj | ⟨hgj, _⟩
          · exact h.inj b j k q' gg (Ne.symm hjb) hb hj hm hq' hg hgj
          · have := (List.getElem?_eq_some_iff.1 hj).1; omega
        · omega
  · intro i q gg hi hq hgi
    rw [getElem?_snoc] at hi hgi
    simp only [List.length_set] at hi
    rcases hi with hi | ⟨hi, rfl⟩
    · rcases (set_get hb).1 hi with ⟨rfl, rfl⟩ | ⟨hne, hi⟩
      · cases hq
      · rcases hgi with hgi | ⟨hgi, rfl⟩
        · obtain ⟨c, hc', hl'⟩ := h.blk i q gg hi hq hgi
          have hne2 : gg ≠ g := fun e => by subst e; exact h.inj b i k q gg (Ne.symm hne) hb hi hm hq hg hgi
          exact ⟨c, by rw [setRow_other w g gg _ hne2]; exact hc', hl'.carry hS.carry⟩
        · have := (List.getElem?_eq_some_iff.1 hi).1; omega
    · rcases hgi with hgi | ⟨hgi, rfl⟩
      · have := (List.getElem?_eq_some_iff.1 hgi).1; omega
      · exact ⟨cur', setRow_heap w gg cur cur' _ _ hc, hl.carry hS.carry⟩

section
variable {P : Program} {X μ : List Nat} {s : ASt} {a : Act} {w : World} {o : Oper} {L : List Nat}


/-- the rows of a slice, as they lie in memory -/
theorem arows_spec {H : List Blk} {v : AV} {u : Value} {r : List C} {rs : List (List C)} (hS : Sim X μ H w) (h : arows H v = some (r :: rs)) (hr : AV.rep (X ++ alive μ H) μ w v u) :
    ∃ ad c news, u = .slice (some ad) (rs.length + 1) c ∧ C.repl (X ++ alive μ H) μ w (r :: rs).flatten news ∧ (∀ (j : Nat) (u : Value), news[j]? = some u → w.cell? (ad.add j) = some u) := by
  unfold arows at h
  split at h
  · injection h with h
    subst h
    simp only [AV.rep, C.rep] at hr
    obtain ⟨p, cap, rfl, _, _, h3⟩ := hr
    rcases h3 with h3 | ⟨b, off, s', rfl, _, _, h3⟩
    · cases h3
    · obtain ⟨us, q1, _, q3⟩ := C.repss_vals h3
      exact ⟨⟨b, off, none⟩, cap, us, by simp, C.repl.carry Carry.any q1, fun j u hu => by rw [addr_add]; exact q3 j u hu⟩
  · rename_i s' b n
    split at h
    · rename_i k hb
      split at h
      · rename_i hk
        injection h with h
        simp only [AV.rep, C.rep] at hr
        obtain ⟨g, cap, hg, rfl, _, _, _⟩ := hr
        obtain ⟨cur, hc, hl⟩ := hS.blk b k g hb hk.1 hg
        obtain ⟨us, q1, _, q3⟩ := C.repss_vals (hl.repss hc)
        rw [h] at q1
        have hn : n = rs.length + 1 := by rw [← hk.2, h]; simp
        exact ⟨_, cap, us, by rw [hn], q1, fun j u hu => by rw [addr_add]; exact q3 j u hu⟩
      · cases h
    · cases h
  · cases h

theorem rowsLen_spec {n : Nat} {rows : List (List C)} (h : rowsLen n rows = true) : ∀ r ∈ rows, r.length = n := fun r hr => by
  have := List.all_eq_true.1 h r hr
  simpa using this

theorem Laid.take_append {cur : Array Value} {sz : Nat} {rows rows' : List (List C)} {olds news : List Value} (h1 : ∀ r ∈ rows, r.length = sz) (h2 : ∀ r ∈ rows', r.length = sz) (ho : C.repl L μ w rows.flatten olds) (hn : C.repl L μ w rows'.flatten news)
    (hc : ∀ (j : Nat) (u : Value), (olds ++ news)[j]? = some u → cur[j]? = some u) : Laid L μ w cur sz (rows ++ rows') :=
  Laid.flat (us := olds ++ news) (fun r hr => by rcases List.mem_append.1 hr with hr | hr; exact h1 r hr; exact h2 r hr) (by rw [List.flatten_append]; exact C.repl_append ho hn) hc

/-- .. an append; which blocks it may write: from B on, if the appended one lies there -/
def OpApp (P : Program) (X μ : List Nat) (s : ASt) (a : Act) (w : World) (o : Oper) (vx v : AV) (h' : List Blk) : Prop := ∃ u w' μ', (execOp a.eval o).run P w = .ok (.value u) w' ∧ Sim X μ' h' w' ∧ Stp μ s.h w μ' h' w' ∧ AV.rep (X ++ alive μ' h') μ' w' v u ∧
  ∀ B, (∀ s' b n g, vx = .one (.row s' b n) → μ[b]? = some g → B ≤ g) → B ≤ w.heap.size → (∃ L, Keep L w w' ∧ ∀ z ∈ L, B ≤ z) ∧ ∀ g, s.h.length < h'.length → μ'[s.h.length]? = some g → B ≤ g
theorem OpApp.ok {vx v : AV} {h' : List Blk} (h : OpApp P X μ s a w o vx v h') : OpOK P X μ s a w o v h' := by
  obtain ⟨u, w', μ', h1, h2, h3, h4, _⟩ := h
  exact ⟨u, w', μ', h1, h2, h3, h4⟩
theorem snoc_last {μ : List Nat} {H : List Blk} {B n g : Nat} (hl : μ.length = H.length) (hB : B ≤ n) (hg : (μ ++ [n])[H.length]? = some g) : B ≤ g := by
  rw [getElem?_snoc] at hg
  rcases hg with hg | ⟨_, rfl⟩
  · have := (List.getElem?_eq_some_iff.1 hg).1; omega
  · exact hB

theorem op_append1 {t : TypeId} {x y : Operand} {vx vy v : AV} {h' : List Blk} (ho : o.op = .call ⟨.builtin .append, #[x, y], #[t, t]⟩) (hF : SimF X μ s a w) (hx : s.eval x = some vx) (hy : s.eval y = some vy) (hv : aappend1 P s.h t vx vy = .val v h') : OpApp P X μ s a w o vx v h' := by
  have h1 := hF.eval hx
  have h2 := hF.eval hy
  have exec : ∀ (u : Value) (w' : World), (Builtin.append_ #[t, t] o.type #[a.eval x, a.eval y]).run P w = .ok u w' → (execOp a.eval o).run P w = .ok (.value u) w' := fun u w' hr => by
    simp only [execOp, ho, resolve, invoke, builtin, Sem.run_bind, Sem.run_pure, Result.andThen_ok, List.map_toArray, List.map_cons, List.map_nil, hr]
  unfold aappend1 at hv
  split at hv
  · rename_i ti r rs hti hrows
    obtain ⟨i, d, z, hi, hd, hz, hzc, hzs, rfl⟩ := tinfo_spec hti
    obtain ⟨ad, c, news, he2, hnr, hnc⟩ := arows_spec hF.sim hrows h2
    split at hv
    · rename_i te hte
      obtain ⟨i', d', z', hi', hd', hz', hzc', hzs', rfl⟩ := tinfo_spec hte
      split at hv
      · rename_i hk
        obtain ⟨hk, _, hpos, hbp⟩ := hk
        obtain ⟨e, rfl⟩ := tkind_slice (tkindP_eq hk (by decide))
        simp only [telem] at hi'
        have hpos : 0 < i'.size := hpos
        have hbp : 0 < i'.bytes := hbp
        split at hv
        · split at hv
          · rename_i hcnd
            obtain ⟨hby, hrl⟩ := hcnd
            have hby : (rs.length + 1) * i'.bytes ≤ 140737488355328 := hby
            have hrl : rowsLen i'.size (r :: rs) = true := hrl
            injection hv with hv1 hv2
            subst hv1 hv2
            have hrl' := rowsLen_spec hrl
            have hnl : news.length = (rs.length + 1) * i'.size := by rw [C.repl_length hnr, flatten_length hrl']; simp
            have e1 := AV.sc_eq h1
            have hm63 : rs.length + 1 ≤ 140737488355328 := Nat.le_trans (Nat.le_mul_of_pos_right _ hbp) hby
            have hrun := run_append_nil (P := P) w t o.type e i' z' hd hi' hz' ad (rs.length + 1) c news hnl hnc (by omega) (by omega) (by omega)
            rw [← e1, ← he2] at hrun
            obtain ⟨q1, q2⟩ := hF.sim.new ((Keep.drew [] w).trans (Keep.alloc [] w.drew _) (by simp)) (heap_alloc_new w.drew _) (ty := e) (s := i'.size) (rows := r :: rs) (cur := news.toArray ++ Builtin.zeroCells z'.cells (grownCap w (rs.length + 1) 0 e - (rs.length + 1)))
              (Laid.flat hrl' hnr (fun j u hu => by rw [Array.getElem?_append_left (by have := (List.getElem?_eq_some_iff.1 hu).1; simpa using this)]; simpa using hu))
            have hge := grownCap_ge w (rs.length + 1) 0 e
            exact ⟨_, _, _, exec _ _ hrun, q1, q2, rep_row_new hF.sim.len hge (grownCap_le_maxLen w _ 0 e (by simp only [maxLen]; omega)) ⟨_, e, heap_alloc_new w.drew _, by
              rw [Array.size_append, List.size_toArray, size_zeroCells, hnl, hzs', ← Nat.add_mul]; congr 1; omega⟩,
              fun B _ hB => ⟨⟨[], (Keep.drew [] w).trans (Keep.alloc [] w.drew _) (by simp), by simp⟩, fun g _ hg => snoc_last hF.sim.len hB hg⟩⟩
          · cases hv
        · rename_i sx b n
          split at hv
          · rename_i k hb
            split at hv
            · rename_i hcnd
              obtain ⟨hby, hsx, hks, hkt, hm, hkn, hrl⟩ := hcnd
              have hsx : sx = i'.size := hsx
              subst hsx
              have hks : k.s = i'.size := hks
              have hkt : k.ty = e := hkt
              have hby : (n + (rs.length + 1)) * i'.bytes ≤ 140737488355328 := hby
              have hrl : rowsLen i'.size (r :: rs) = true := hrl
              injection hv with hv1 hv2
              subst hv1 hv2
              have hrl' := rowsLen_spec hrl
              have hnl : news.length = (rs.length + 1) * i'.size := by rw [C.repl_length hnr, flatten_length hrl']; simp
              have hno := C.repl_one hnr
              simp only [AV.rep, C.rep] at h1
              obtain ⟨g, cap, hg, e1, hncap, hcm, hrow⟩ := h1
              obtain ⟨cur, hc, hl⟩ := hF.sim.blk b k g hb (known_of_mut hm) hg
              have hcs : cur.size = cap * i'.size := by
                obtain ⟨cur2, ty2, hc2, hs2⟩ := hrow
                rw [hc] at hc2; cases hc2; exact hs2
              have hrows1 : ∀ r ∈ k.rows, r.length = i'.size := fun r hr => by
                obtain ⟨i0, hi0⟩ := List.getElem?_of_mem hr
                rw [← hks]; exact (hl i0 r hi0).1
              obtain ⟨us, hus, hul, huc⟩ := C.repss_vals (hl.repss hc)
              rw [hks] at hul
              have hucur : ∀ (j : Nat) (u : Value), us[j]? = some u → cur[j]? = some u := fun j u hu => by
                have := huc j u hu
                simp only [World.cell?, hc, Nat.zero_add] at this
                simpa using this
              have hm63 : n + (rs.length + 1) ≤ 140737488355328 := Nat.le_trans (Nat.le_mul_of_pos_right _ hbp) hby
              rw [hkt] at hc
              by_cases hroom : n + (rs.length + 1) ≤ cap
              · have hfit : n * i'.size + news.length ≤ cur.size := by rw [hnl, hcs, ← Nat.add_mul]; exact Nat.mul_le_mul_right _ hroom
                have hrun := run_append_room (P := P) w t o.type e i' hd hi' g n cap cur hc ad (rs.length + 1) c news hnl hnc hno hroom hfit
                rw [← e1, ← he2] at hrun
                have hn' : us.length = n * i'.size := by rw [hul, hkn]
                rw [← hkt] at hc
                obtain ⟨q1, q2⟩ := hF.sim.regrow (s := i'.size) (rows := k.rows ++ (r :: rs)) (cur' := (cur.toList.take (n * i'.size) ++ news ++ cur.toList.drop (n * i'.size + news.length)).toArray) hb hm hg hc (by simp; omega) (Laid.take_append hrows1 hrl' hus hnr (fun j u hu => by
                  rw [repl_at _ _ _ _ hfit]
                  by_cases hj : j < us.length
                  · rw [List.getElem?_append_left hj] at hu
                    rw [if_neg (by omega)]
                    exact hucur j u hu
                  · rw [List.getElem?_append_right (by omega)] at hu
                    have := (List.getElem?_eq_some_iff.1 hu).1
                    rw [if_pos (by omega), ← hu]
                    congr 1; omega))
                rw [hkt] at q1 q2
                refine ⟨_, _, _, exec _ _ hrun, q1, q2, ?_, fun B hb2 _ => ⟨⟨[g], Keep.setRow (by simp) hc (by simp; omega), fun z hz => by simp only [List.mem_singleton] at hz; subst hz; exact hb2 _ _ _ _ rfl hg⟩, fun g' _ hg' => snoc_last hF.sim.len (hb2 _ _ _ _ rfl hg) hg'⟩⟩
                simp only [AV.rep, C.rep]
                exact ⟨g, cap, getElem?_snoc.2 (.inr ⟨hF.sim.len.symm, rfl⟩), rfl, hroom, hcm, ⟨_, _, setRow_heap w g cur _ _ _ hc, by simp; omega⟩⟩
              · have holds : ∀ (j : Nat) (u : Value), us[j]? = some u → w.cell? ((⟨g, 0, none⟩ : Addr).add j) = some u := fun j u hu => by rw [addr_add]; exact huc j u hu
                have hrun := run_append_grow (P := P) w t o.type e i' z' hd hi' hz' ⟨g, 0, none⟩ n cap us (by rw [hul, hkn]) holds ad (rs.length + 1) c news hnl hnc (by omega) (by omega) (growslice_fits (by omega) hby)
                rw [← e1, ← he2] at hrun
                obtain ⟨d1, d2⟩ := hF.sim.kill hb
                obtain ⟨q1, q2⟩ := d1.new ((Keep.drew [] w).trans (Keep.alloc [] w.drew _) (by simp)) (heap_alloc_new w.drew _) (ty := e) (s := i'.size) (rows := k.rows ++ (r :: rs)) (cur := us.toArray ++ news.toArray ++ Builtin.zeroCells z'.cells (grownCap w (n + (rs.length + 1)) cap e - (n + (rs.length + 1))))
                  ((Laid.take_append hrows1 hrl' hus hnr (fun j u hu => by
                    have := (List.getElem?_eq_some_iff.1 hu).1
                    rw [Array.getElem?_append_left (by simpa using this)]
                    simpa using hu)).carry d2.carry)
                have hge := grownCap_ge w (n + (rs.length + 1)) cap e
                refine ⟨_, _, _, exec _ _ hrun, q1, d2.trans q2, ?_, fun B _ hB => ⟨⟨[], (Keep.drew [] w).trans (Keep.alloc [] w.drew _) (by simp), by simp⟩, fun g' _ hg' => snoc_last hF.sim.len hB hg'⟩⟩
                have := rep_row_new (L := X ++ alive (μ ++ [w.heap.size]) (s.h.set b k.dead ++ [⟨i'.size, e, .mut, k.rows ++ (r :: rs)⟩])) (w' := w.drew.alloc (.cells (us.toArray ++ news.toArray ++ Builtin.zeroCells z'.cells (grownCap w (n + (rs.length + 1)) cap e - (n + (rs.length + 1)))) e)) (sz := i'.size) d1.len hge (grownCap_le_maxLen w _ cap e (by simp only [maxLen]; omega)) ⟨_, e, heap_alloc_new w.drew _, by
                  rw [Array.size_append, Array.size_append, List.size_toArray, List.size_toArray, size_zeroCells, hnl, hul, hkn, hzs', ← Nat.add_mul, ← Nat.add_mul]; congr 1; omega⟩
                rw [show (s.h.set b k.dead).length = s.h.length from by simp] at this
                exact this
            · cases hv
          · cases hv
        · cases hv
      · cases hv
    · cases hv
  · cases hv
theorem aempty_spec {v : AV} {u : Value} {L : List Nat} (h : aempty v = true) (hr : AV.rep L μ w v u) : ∃ p c, u = .slice p 0 c := by
  unfold aempty at h
  split at h
  · simp only [AV.rep, C.rep] at hr
    obtain ⟨p, cap, e, _⟩ := hr
    exact ⟨p, cap, e⟩
  · simp only [AV.rep, C.rep] at hr
    obtain ⟨g, cap, _, e, _⟩ := hr
    exact ⟨_, cap, e⟩
  · exact ⟨_, _, AV.sc_eq hr⟩
  · cases h
theorem aisSlice_spec {v : AV} {u : Value} {L : List Nat} (h : aisSlice v = true) (hr : AV.rep L μ w v u) : ∃ p n c, u = .slice p n c ∧ n ≤ c := by
  unfold aisSlice at h
  split at h
  · simp only [AV.rep, C.rep] at hr
    obtain ⟨p, cap, e, h1, _⟩ := hr
    exact ⟨p, _, cap, e, h1⟩
  · simp only [AV.rep, C.rep] at hr
    obtain ⟨g, cap, _, e, h1, _⟩ := hr
    exact ⟨_, _, cap, e, h1⟩
  · exact ⟨none, 0, 0, AV.sc_eq hr, Nat.le_refl _⟩
  · cases h
theorem op_append {t : TypeId} {x y : Operand} {vx vy v : AV} {h' : List Blk} (ho : o.op = .call ⟨.builtin .append, #[x, y], #[t, t]⟩) (hF : SimF X μ s a w) (hx : s.eval x = some vx) (hy : s.eval y = some vy) (hv : aappend P s.h t vx vy = .val v h') : OpApp P X μ s a w o vx v h' := by
  unfold aappend at hv
  split at hv
  · rename_i hem
    have h1 := hF.eval hx
    have h2 := hF.eval hy
    have exec : ∀ (u : Value) (w' : World), (Builtin.append_ #[t, t] o.type #[a.eval x, a.eval y]).run P w = .ok u w' → (execOp a.eval o).run P w = .ok (.value u) w' := fun u w' hr => by
      simp only [execOp, ho, resolve, invoke, builtin, Sem.run_bind, Sem.run_pure, Result.andThen_ok, List.map_toArray, List.map_cons, List.map_nil, hr]
    unfold asame at hv
    split at hv
    · rename_i ti hti
      obtain ⟨i, d, z, hi, hd, hz, hzc, hzs, rfl⟩ := tinfo_spec hti
      split at hv
      · rename_i te hte
        obtain ⟨i', d', z', hi', hd', hz', hzc', hzs', rfl⟩ := tinfo_spec hte
        split at hv
        · rename_i hk
          obtain ⟨hk, hsl⟩ := hk
          obtain ⟨e, rfl⟩ := tkind_slice (tkindP_eq hk (by decide))
          simp only [telem] at hi'
          injection hv with hv1 hv2
          subst hv1 hv2
          obtain ⟨py, cy, ey⟩ := aempty_spec hem h2
          obtain ⟨px, n, cx, ex, hle⟩ := aisSlice_spec hsl h1
          refine ⟨a.eval x, w, μ, exec _ _ ?_, hF.sim, Stp.refl _ _ _, h1, fun B _ _ => ⟨⟨[], Keep.refl _ _, by simp⟩, fun g hlt _ => absurd hlt (Nat.lt_irrefl _)⟩⟩
          rw [ex, ey]
          cases px <;> cases py <;> simp [Builtin.append_, run_underlying' hd, run_sizeOf' hi', Builtin.lenOf, hle, Builtin.firstCells, loadCells, loadCellsFrom, storeCells]
        · cases hv
      · cases hv
    · cases hv
  · exact op_append1 ho hF hx hy hv
end
end Go.Proofs.Sh
