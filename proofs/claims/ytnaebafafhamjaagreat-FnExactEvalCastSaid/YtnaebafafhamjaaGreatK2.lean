/- Texts of the proof, one behind another. -/
import Derived.Test.YtnaebafafhamjaaGreatK1
set_option linter.unusedSimpArgs false
set_option linter.unusedVariables false
/- Operations that make or write memory. -/
namespace Go.Proofs.Sh
open Go.RowKit

/-- the operation yields a value with this shadow, and the own blocks are then as h' says -/
def OpOK (P : Program) (X μ : List Nat) (s : ASt) (a : Act) (w : World) (o : Oper) (v : AV) (h' : List Blk) : Prop :=
  ∃ u w' μ', (execOp a.eval o).run P w = .ok (.value u) w' ∧ Sim X μ' h' w' ∧ Stp μ s.h w μ' h' w' ∧ AV.rep (X ++ alive μ' h') μ' w' v u

/-- .. and only new memory is written -/
def OpNew (P : Program) (X μ : List Nat) (s : ASt) (a : Act) (w : World) (o : Oper) (v : AV) (h' : List Blk) : Prop :=
  ∃ u w' μ', (execOp a.eval o).run P w = .ok (.value u) w' ∧ Sim X μ' h' w' ∧ Stp μ s.h w μ' h' w' ∧ AV.rep (X ++ alive μ' h') μ' w' v u ∧ Keep [] w w'

section
variable {P : Program} {X μ : List Nat} {s : ASt} {a : Act} {w : World} {o : Oper} {L : List Nat}

theorem OpNew.ok {v : AV} {h' : List Blk} (h : OpNew P X μ s a w o v h') : OpOK P X μ s a w o v h' :=
  let ⟨u, w', μ', h1, h2, h3, h4, _⟩ := h; ⟨u, w', μ', h1, h2, h3, h4⟩
theorem OpOK.of_pure {v : AV} (hF : SimF X μ s a w) (h : ∃ u, PureV P o a u ∧ AV.rep (X ++ alive μ s.h) μ w v u) : OpOK P X μ s a w o v s.h :=
  let ⟨u, h1, h2⟩ := h; ⟨u, w, μ, h1 w, hF.sim, Stp.refl _ _ _, h2⟩

theorem sim_ptr {μ : List Nat} {H : List Blk} {w w' : World} {n : Nat} (hl : μ.length = H.length) : AV.rep L (μ ++ [w.heap.size]) w' (.one (.ptr n H.length 0 0)) (.pointer (some ⟨w.heap.size, 0, none⟩)) := by
  simp only [AV.rep, C.rep]
  exact ⟨w.heap.size, getElem?_snoc.2 (.inr ⟨hl.symm, rfl⟩), by simp⟩

theorem op_alloc {t : TypeId} {ti : TI} (ho : o.op = .alloc t) (hF : SimF X μ s a w) (hti : tinfo P t = some ti) : OpNew P X μ s a w o (.one (.ptr ti.size s.h.length 0 0)) (s.h ++ [⟨ti.size, t, .mut, [ti.zero.map .sc]⟩]) := by
  obtain ⟨i, d, z, hi, hd, hz, hzc, hzs, rfl⟩ := tinfo_spec hti
  have hrun : (execOp a.eval o).run P w = .ok (.value (.pointer (some ⟨w.heap.size, 0, none⟩))) (w.alloc (.cells z.cells t)) := by
    simp [execOp, ho, Instr.alloc, run_zeroValue' hi hz, newVar, newRow]
  have hl : Laid (X ++ alive μ s.h) μ w z.cells i.size [z.cells.toList.map .sc] := by
    have := Laid.one (L := X ++ alive μ s.h) (μ := μ) (w := w) (C.repl_sc hzc)
    simpa [hzs] using this
  obtain ⟨h1, h2⟩ := hF.sim.new (Keep.alloc _ w _) (heap_alloc_new w _) (ty := t) hl
  exact ⟨_, _, _, hrun, h1, h2, sim_ptr hF.sim.len, Keep.alloc _ _ _⟩

theorem op_box {t : TypeId} {x : Operand} {cs : List C} (ho : o.op = .box t x) (hF : SimF X μ s a w) (hx : (s.eval x).bind AV.cells = some cs) : OpNew P X μ s a w o (.one (.ptr cs.length s.h.length 0 0)) (s.h ++ [⟨cs.length, t, .mut, [cs]⟩]) := by
  have hr := bind_cells (a := a) (fun o v hv => hF.eval hv) hx
  have hrun : (execOp a.eval o).run P w = .ok (.value (.pointer (some ⟨w.heap.size, 0, none⟩))) (w.alloc (.cells (a.eval x).cells t)) := by
    simp [execOp, ho, Instr.box, newVar, newRow]
  obtain ⟨h1, h2⟩ := hF.sim.new (Keep.alloc _ w _) (heap_alloc_new w _) (ty := t) (Laid.one hr)
  exact ⟨_, _, _, hrun, h1, h2, sim_ptr hF.sim.len, Keep.alloc _ _ _⟩

theorem op_build {t : TypeId} {parts : Array (Nat × Operand)} {v : AV} (ho : o.op = .build t parts) (hF : SimF X μ s a w) (hv : abuild P t (parts.toList.map fun p => (p.1, s.eval p.2)) = some v) : ∃ u, PureV P o a u ∧ AV.rep (X ++ alive μ s.h) μ w v u := by
  unfold abuild at hv
  split at hv
  · rename_i ti hti
    obtain ⟨i, d, z, hi, hd, hz, hzc, hzs, rfl⟩ := tinfo_spec hti
    split at hv
    · rename_i hk
      simp only at hk
      obtain ⟨hk, _⟩ := hk
      obtain ⟨fs, rfl⟩ := tkind_struct (tkindP_eq hk (by decide))
      split at hv
      · rename_i cs hcs
        cases hv
        have hall : ∀ f ∈ fs.toList, ∃ i, P.info? f.type = some i ∧ (tfield P f).1 = f.offset ∧ (tfield P f).2.1 = i.size := by
          intro f hf
          have h9 : ((tfields P (.struct fs)).all (fun f => f.2.1 != 0)) = true := by
            unfold tkindP at hk
            split at hk
            · assumption
            · cases hk
          have h1 := List.all_eq_true.1 h9 (tfield P f) (by simp only [tfields]; exact List.mem_map_of_mem hf)
          unfold tfield at h1 ⊢
          split at h1
          · rename_i d' hd'
            simp only [bne_iff_ne, ne_eq] at h1
            unfold Program.cellsOf at h1
            cases hi' : P.info? f.type with
            | none => rw [hi'] at h1; simp at h1
            | some i' => exact ⟨i', rfl, rfl, by simp [Program.cellsOf, hi']⟩
          · simp at h1
        have hpl : ∀ (l : List Field), (∀ f ∈ l, ∃ i, P.info? f.type = some i ∧ (tfield P f).1 = f.offset ∧ (tfield P f).2.1 = i.size) →
            l.mapM (fun f => (P.info? f.type).map fun i => (f.offset, i.size)) = some (l.map fun f => ((tfield P f).1, (tfield P f).2.1)) := by
          intro l
          induction l with
          | nil => intro _; rfl
          | cons f l ih =>
            intro h
            obtain ⟨i, h1, h2, h3⟩ := h f (by simp)
            simp [List.mapM_cons, h1, ih (fun f hf => h f (by simp [hf])), h2, h3]
        have hplaces := hpl fs.toList hall
        obtain ⟨cells', h1, h2⟩ := fill_sound (a := a) (place := ((fs.toList.map fun f => ((tfield P f).1, (tfield P f).2.1)).toArray[·]?)) (fun f off size g hf => by
          simp only [tfields, List.getElem?_map, Option.map_eq_some_iff] at hf
          obtain ⟨fl, h1, h2⟩ := hf
          simp [h1, h2]) (fun o v hv => hF.eval hv) parts.toList _ cs z.cells hcs (C.repl_sc hzc)
        have hb : P.built t (parts.map fun (i, x) => (i, a.eval x)).toList = some cells' := by
          unfold Program.built
          simp only [hi, hd, hz, hplaces]
          simpa using h1
        exact ⟨.agg cells', fun w => by simp only [execOp, ho, Sem.run_bind, run_build w t _ cells' hb, Result.andThen_ok, Sem.run_pure], by simp only [AV.rep]; exact ⟨_, rfl, h2⟩⟩
      · cases hv
    · cases hv
  · cases hv

/-! ### reading -/
theorem acells_spec {p : C} {cs : List C} {u : Value} (hS : Sim X μ s.h w) (h : acells s.h p = some cs) (hp : C.rep (X ++ alive μ s.h) μ w p u) :
    ∃ g off, u = .pointer (some ⟨g, off, none⟩) ∧ g < w.heap.size ∧ (g ∉ X ++ alive μ s.h ∨ ∃ n b i j k, p = .ptr n b i j ∧ μ[b]? = some g ∧ s.h[b]? = some k ∧ k.st.known = true) ∧
      ∀ (j : Nat) (c : C), cs[j]? = some c → ∃ v, w.cell? ⟨g, off + j, none⟩ = some v ∧ C.rep (X ++ alive μ s.h) μ w c v := by
  unfold acells at h
  split at h
  · cases h
    simp only [C.rep] at hp
    obtain ⟨b, off, rfl, hlt, hb, hr⟩ := hp
    refine ⟨b, _, rfl, hlt, .inl hb, fun j c hj => ?_⟩
    rw [List.getElem?_drop] at hj
    obtain ⟨v, h1, h2⟩ := C.reps_get hr _ c hj
    exact ⟨v, by rw [Nat.add_assoc]; exact h1, C.rep.carry Carry.any h2⟩
  · rename_i n b i j
    split at h
    · rename_i k hb
      split at h
      · rename_i hk
        obtain ⟨hk, rfl⟩ := hk
        split at h
        · rename_i r hr
          cases h
          simp only [C.rep] at hp
          obtain ⟨g, hg, rfl⟩ := hp
          obtain ⟨cur, hc, hl⟩ := hS.blk b _ g hb hk hg
          obtain ⟨hrl, hrr⟩ := hl i r hr
          refine ⟨g, _, rfl, hS.lt g (List.mem_of_getElem? hg), .inr ⟨_, b, i, j, k, rfl, hg, hb, hk⟩, fun j' c hj => ?_⟩
          rw [List.getElem?_drop] at hj
          obtain ⟨v, h1, h2⟩ := hrr _ c hj
          exact ⟨v, by simp only [World.cell?, hc, Nat.add_assoc]; simpa using h1, h2⟩
        · cases h
      · cases h
    · cases h
  · cases h

/-- a read: of which block, and what it yields in every world that has this block as it is -/
theorem op_load {t : TypeId} {x : Operand} {p : C} {v : AV} (ho : o.op = .load t x) (hF : SimF X μ s a w) (hx : s.eval x = some (.one p)) (hv : aload P s.h t p = some v) :
    ∃ g u, g < w.heap.size ∧ (g ∉ X ++ alive μ s.h ∨ ∃ n b i j k, p = .ptr n b i j ∧ μ[b]? = some g ∧ s.h[b]? = some k ∧ k.st.known = true) ∧
      (∀ w2 : World, w2.heap[g]? = w.heap[g]? → (execOp a.eval o).run P w2 = .ok (.value u) w2) ∧ AV.rep (X ++ alive μ s.h) μ w v u := by
  have hp := hF.eval hx
  simp only [AV.rep] at hp
  unfold aload at hv
  split at hv
  · rename_i ti cs hti hcs
    obtain ⟨i, d, z, hi, hd, hz, hzc, hzs, rfl⟩ := tinfo_spec hti
    obtain ⟨g, off, he, hlt, hor, hc⟩ := acells_spec hF.sim hcs hp
    simp only at hv
    split at hv
    · rename_i hag
      split at hv
      · rename_i hsz
        cases hv
        have hex : ∃ us : List Value, C.repl (X ++ alive μ s.h) μ w (cs.take i.size) us ∧ ∀ (j : Nat) (u : Value), us[j]? = some u → w.cell? ⟨g, off + j, none⟩ = some u := by
          have : C.reps (X ++ alive μ s.h) μ w (cs.take i.size) g off := C.reps_of (fun j c hj => by
            rw [List.getElem?_take] at hj
            split at hj
            · exact hc j c hj
            · cases hj)
          exact C.reps_vals this
        obtain ⟨us, hus, hcell⟩ := hex
        have hul : us.length = i.size := by rw [C.repl_length hus]; simp; omega
        refine ⟨g, .agg us.toArray, hlt, hor, fun w2 hw2 => ?_, by simp only [AV.rep]; exact ⟨_, rfl, by simpa using hus⟩⟩
        have hcell2 : ∀ (j : Nat) (u : Value), us[j]? = some u → w2.cell? ((⟨g, off, none⟩ : Addr).add j) = some u := fun j u hj => by
          rw [addr_add, World.cell?_of_block (w := w) (w' := w2) (a := ⟨g, off + j, none⟩) hw2]
          exact hcell j u hj
        have hl := run_loadCells_list (P := P) (w := w2) ⟨g, off, none⟩ us hcell2
        simp only [execOp, ho, he, Instr.loadAt, Instr.sureAddr, loadVar, Sem.run_bind, Sem.run_pure, Result.andThen_ok, run_isAgg' hd, hag, if_true, run_sizeOf' hi, ← hul, hl]
      · cases hv
    · rename_i hag
      split at hv
      · rename_i c hc0
        cases hv
        obtain ⟨u, hu, hr⟩ := hc 0 c hc0
        refine ⟨g, u, hlt, hor, fun w2 hw2 => ?_, by simp only [AV.rep]; exact hr⟩
        have hcell2 : w2.cell? ⟨g, off, none⟩ = some u := by
          rw [World.cell?_of_block (w := w) (w' := w2) (a := ⟨g, off, none⟩) hw2]
          simpa using hu
        have hag' : tagg d = false := by simpa using hag
        simp [execOp, ho, he, Instr.loadAt, Instr.sureAddr, loadVar, run_isAgg' hd, hag', hcell2]
      · cases hv
  · cases hv
end

theorem set_get {H : List Blk} {b i : Nat} {k k' x : Blk} (hb : H[b]? = some k) : (H.set b k')[i]? = some x ↔ (i = b ∧ x = k') ∨ (i ≠ b ∧ H[i]? = some x) := by
  have hlt := (List.getElem?_eq_some_iff.1 hb).1
  rw [List.getElem?_set]
  by_cases h : b = i
  · subst h; simp [hlt, eq_comm]
  · rw [if_neg h]; simp [Ne.symm h]
theorem mem_alive_set {μ : List Nat} {H : List Blk} {b x : Nat} {k k' : Blk} (hb : H[b]? = some k) (hst : k'.st.isMut = k.st.isMut) : x ∈ alive μ (H.set b k') ↔ x ∈ alive μ H := by
  rw [mem_alive, mem_alive]
  constructor
  · rintro ⟨i, q, h1, h2, h3⟩
    rcases (set_get hb).1 h2 with ⟨rfl, rfl⟩ | ⟨_, h2⟩
    · exact ⟨i, k, h1, hb, by rw [← hst]; exact h3⟩
    · exact ⟨i, q, h1, h2, h3⟩
  · rintro ⟨i, q, h1, h2, h3⟩
    by_cases hi : i = b
    · subst hi
      rw [hb] at h2
      cases h2
      exact ⟨i, k', h1, (set_get hb).2 (.inl ⟨rfl, rfl⟩), by rw [hst]; exact h3⟩
    · exact ⟨i, q, h1, (set_get hb).2 (.inr ⟨hi, h2⟩), h3⟩

/-- a store into an own block -/
theorem Sim.set {X μ : List Nat} {H : List Blk} {w : World} {b g : Nat} {k : Blk} {cur cur' : Array Value} {rows : List (List C)} (h : Sim X μ H w) (hb : H[b]? = some k) (hm : k.st.isMut = true) (hg : μ[b]? = some g)
    (hc : w.heap[g]? = some (.cells cur k.ty (0, 0))) (hsz : cur'.size = cur.size) (hl : Laid (X ++ alive μ H) μ w cur' k.s rows) :
    Sim X μ (H.set b ⟨k.s, k.ty, k.st, rows⟩) (w.setRow g cur') ∧ Stp μ H w μ (H.set b ⟨k.s, k.ty, k.st, rows⟩) (w.setRow g cur') := by
  have hga : g ∈ alive μ H := mem_alive.2 ⟨b, k, hg, hb, hm⟩
  have hK := Keep.setRow (w := w) hga hc hsz
  have hmem : ∀ x, x ∈ alive μ (H.set b ⟨k.s, k.ty, k.st, rows⟩) ↔ x ∈ alive μ H := fun x => mem_alive_set hb rfl
  have hS : Stp μ H w μ (H.set b ⟨k.s, k.ty, k.st, rows⟩) (w.setRow g cur') := ⟨hK, fun _ _ e => e, fun x hx _ => (hmem x).1 hx⟩
  have hsize : (w.setRow g cur').heap.size = w.heap.size := by simp [World.setRow]
  refine ⟨⟨by simp [h.len], fun x hx => by rw [hsize]; exact h.lt x hx, fun x hx => by rw [hsize]; exact h.xlt x hx, ?_, ?_, ?_⟩, hS⟩
  · intro i q gg hi hq hgi
    rcases (set_get hb).1 hi with ⟨rfl, rfl⟩ | ⟨_, hi⟩
    · exact h.out i k gg hb hq hgi
    · exact h.out i q gg hi hq hgi
  · intro i j q q' gg hij hi hj hq hq' hgi hgj
    have get : ∀ (i : Nat) (q : Blk), (H.set b ⟨k.s, k.ty, k.st, rows⟩)[i]? = some q → ∃ q0, H[i]? = some q0 ∧ q0.st = q.st := fun i q hi => by
      rcases (set_get hb).1 hi with ⟨rfl, rfl⟩ | ⟨_, hi⟩
      · exact ⟨k, hb, rfl⟩
      · exact ⟨q, hi, rfl⟩
    obtain ⟨a1, e1, e2⟩ := get i q hi
    obtain ⟨a2, e3, e4⟩ := get j q' hj
    exact h.inj i j a1 a2 gg hij e1 e3 (by rw [e2]; exact hq) (by rw [e4]; exact hq') hgi hgj
  · intro i q gg hi hq hgi
    rcases (set_get hb).1 hi with ⟨rfl, rfl⟩ | ⟨hne, hi⟩
    · rw [hg] at hgi; cases hgi
      exact ⟨cur', setRow_heap w g cur cur' _ _ hc, hl.carry hS.carry⟩
    · obtain ⟨c, hc', hl'⟩ := h.blk i q gg hi hq hgi
      have hne2 : gg ≠ g := fun e => by subst e; exact h.inj b i k q gg (Ne.symm hne) hb hi hm hq hg hgi
      exact ⟨c, by rw [setRow_other w g gg _ hne2]; exact hc', hl'.carry hS.carry⟩

theorem repl_at (cur : Array Value) (o : Nat) (vs : List Value) (m : Nat) (hfit : o + vs.length ≤ cur.size) : ((cur.toList.take o ++ vs ++ cur.toList.drop (o + vs.length)).toArray)[m]? = if o ≤ m ∧ m < o + vs.length then vs[m - o]? else cur[m]? := by
  rw [List.getElem?_toArray]
  by_cases h1 : m < o
  · rw [List.getElem?_append_left (by simp; omega), List.getElem?_append_left (by simp; omega), List.getElem?_take, if_pos h1, if_neg (by omega), Array.getElem?_toList]
  · by_cases h2 : m < o + vs.length
    · rw [List.getElem?_append_left (by simp; omega), List.getElem?_append_right (by simp; omega), if_pos (by omega)]; congr 1; simp; omega
    · rw [List.getElem?_append_right (by simp; omega), List.getElem?_drop, if_neg (by omega), Array.getElem?_toList]; congr 1; simp; omega
theorem splice_get {r cs : List C} {j n : Nat} (hl : j + cs.length ≤ r.length) : (splice r j cs)[n]? = if j ≤ n ∧ n < j + cs.length then cs[n - j]? else r[n]? := by
  unfold splice
  by_cases h1 : n < j
  · rw [List.getElem?_append_left (by simp; omega), List.getElem?_take, if_pos h1, if_neg (by omega)]
  · rw [List.getElem?_append_right (by simp; omega)]
    by_cases h2 : n < j + cs.length
    · rw [List.getElem?_append_left (by simp; omega), if_pos (by omega)]; congr 1; simp; omega
    · rw [List.getElem?_append_right (by simp; omega), List.getElem?_drop, if_neg (by omega)]; congr 1; simp; omega
theorem splice_length {r cs : List C} {j : Nat} (hl : j + cs.length ≤ r.length) : (splice r j cs).length = r.length := by
  unfold splice; simp; omega

section
variable {P : Program} {X μ : List Nat} {s : ASt} {a : Act} {w : World} {o : Oper} {L : List Nat}

theorem op_store {t : TypeId} {x y : Operand} {p : C} {v : AV} {h' : List Blk} (ho : o.op = .store t x y) (hF : SimF X μ s a w) (hx : s.eval x = some (.one p)) (hy : s.eval y = some v) (hv : astore P s.h t p v = some h') :
    ∃ w', (execOp a.eval o).run P w = .ok .skip w' ∧ (Sim X μ h' w' ∧ Stp μ s.h w μ h' w') ∧ ∀ n b i j g, p = .ptr n b i j → μ[b]? = some g → Keep [g] w w' := by
  have hp := hF.eval hx
  have hval := hF.eval hy
  unfold astore at hv
  split at hv
  · rename_i ti n b i j cs hti hcs
    obtain ⟨it, d, z, hi, hd, hz, hzc, hzs, rfl⟩ := tinfo_spec hti
    split at hv
    · rename_i k hb
      split at hv
      · rename_i hk
        obtain ⟨hsz, hm, rfl⟩ := hk
        split at hv
        · rename_i r hr
          split at hv
          · rename_i hjl
            cases hv
            simp only [AV.rep, C.rep] at hp
            obtain ⟨g, hg, he⟩ := hp
            have hkn : k.st.known = true := by
              cases hst : k.st <;> simp [St.isMut, St.known, hst] at hm ⊢
            obtain ⟨cur, hc, hl⟩ := hF.sim.blk b k g hb hkn hg
            obtain ⟨hrl, hrr⟩ := hl i r hr
            have hvr := AV.rep_cells hcs hval
            have hvl := C.repl_length hvr
            have hvo := C.repl_one hvr
            simp only at hsz
            have hfit : i * k.s + j + (a.eval y).cells.toList.length ≤ cur.size := by
              rw [hvl]
              have hrs : 0 < r.length ∨ r.length = 0 := by omega
              rcases hrs with hrs | hrs
              · have : r.length - 1 < r.length := by omega
                obtain ⟨u, hu, _⟩ := hrr (r.length - 1) _ (List.getElem?_eq_getElem this)
                have := (Array.getElem?_eq_some_iff.1 hu).1
                omega
              · have h0 : k.s = 0 := by omega
                rw [h0]; simp; omega
            have hst := run_storeCells_at P g (i * k.s + j) k.ty (a.eval y).cells.toList 0 cur w hc (by simpa using hfit) hvo
            simp only [Nat.add_zero] at hst
            have hrun : (execOp a.eval o).run P w = .ok .skip (w.setRow g (cur.toList.take (i * k.s + j) ++ (a.eval y).cells.toList ++ cur.toList.drop (i * k.s + j + (a.eval y).cells.toList.length)).toArray) := by
              have : (a.eval y).cells.size = it.size := by simp only [Array.length_toList] at hvl; omega
              simp [execOp, ho, he, Instr.storeAt, Instr.sureAddr, storeVar, run_sizeOf' hi, this, hst]
            refine ⟨_, hrun, hF.sim.set hb hm hg hc (by simp at hfit ⊢; omega) ?_, fun n' b' i' j' g' e1 e2 => by cases e1; rw [hg] at e2; cases e2; exact Keep.setRow (by simp) hc (by simp at hfit ⊢; omega)⟩
            intro i' r' hr'
            have hlt := (List.getElem?_eq_some_iff.1 hr).1
            rw [List.getElem?_set] at hr'
            split at hr'
            · rename_i hii
              subst hii
              cases hr'
              refine ⟨by rw [splice_length hjl, hrl], fun m c hc' => ?_⟩
              rw [splice_get hjl] at hc'
              split at hc'
              · rename_i hm'
                obtain ⟨u, hu, hur⟩ := C.repl_get hvr _ c hc'
                refine ⟨u, ?_, hur⟩
                rw [repl_at _ _ _ _ hfit, if_pos (by omega), ← hu]
                congr 1; omega
              · rename_i hm'
                obtain ⟨u, hu, hur⟩ := hrr m c hc'
                refine ⟨u, ?_, hur⟩
                rw [repl_at _ _ _ _ hfit, if_neg (by omega)]
                exact hu
            · rename_i hii
              obtain ⟨q1, q2⟩ := hl i' r' hr'
              refine ⟨q1, fun m c hc' => ?_⟩
              obtain ⟨u, hu, hur⟩ := q2 m c hc'
              refine ⟨u, ?_, hur⟩
              have hml := (List.getElem?_eq_some_iff.1 hc').1
              rw [repl_at _ _ _ _ hfit, if_neg]
              · exact hu
              · intro ⟨b1, b2⟩
                rcases Nat.lt_or_gt_of_ne hii with hlt' | hgt
                · have := Nat.mul_le_mul_right k.s (show i + 1 ≤ i' by omega)
                  rw [Nat.succ_mul] at this
                  omega
                · have := Nat.mul_le_mul_right k.s (show i' + 1 ≤ i by omega)
                  rw [Nat.succ_mul] at this
                  omega
          · cases hv
        · cases hv
      · cases hv
    · cases hv
  · cases hv
end
end Go.Proofs.Sh
/- Slices: made, built, and grown. -/
namespace Go.Proofs.Sh
open Go.RowKit

theorem flatten_length {s : Nat} : ∀ {rows : List (List C)}, (∀ r ∈ rows, r.length = s) → rows.flatten.length = rows.length * s
  | [], _ => by simp
  | r :: rows, h => by
    rw [List.flatten_cons, List.length_append, h r (by simp), flatten_length (fun r hr => h r (by simp [hr])), List.length_cons, Nat.succ_mul]; omega
theorem flatten_set {s : Nat} {xs : List C} (hx : xs.length = s) : ∀ {rows : List (List C)} {i : Nat}, (∀ r ∈ rows, r.length = s) → i < rows.length → (rows.set i xs).flatten = splice rows.flatten (i * s) xs
  | [], i, _, hi => by simp at hi
  | r :: rows, 0, h, _ => by
    have := h r (by simp)
    simp only [List.set_cons_zero, List.flatten_cons, splice, Nat.zero_mul, List.take_zero, List.nil_append, Nat.zero_add, hx]
    rw [← this, List.drop_left]
  | r :: rows, i + 1, h, hi => by
    have h0 := h r (by simp)
    have ih := flatten_set hx (rows := rows) (i := i) (fun r hr => h r (by simp [hr])) (by simpa using hi)
    simp only [List.set_cons_succ, List.flatten_cons, ih]
    unfold splice
    rw [Nat.succ_mul, Nat.add_comm (i * s) s, ← h0, List.take_length_add_append, List.append_assoc, Nat.add_assoc, List.drop_length_add_append]
theorem flatten_replicate {l : List C} : ∀ (n j : Nat), (List.replicate n l).flatten[j]? = if j < n * l.length then l[j % l.length]? else none
  | 0, j => by simp
  | n + 1, j => by
    rw [List.replicate_succ, List.flatten_cons]
    by_cases hj : j < l.length
    · rw [List.getElem?_append_left hj, if_pos (by rw [Nat.succ_mul]; omega), Nat.mod_eq_of_lt hj]
    · rw [List.getElem?_append_right (by omega), flatten_replicate n]
      have e : (j - l.length) % l.length = j % l.length := (Nat.mod_eq_sub_mod (by omega)).symm
      rw [e]
      by_cases hk : j < (n + 1) * l.length
      · rw [if_pos hk, if_pos (by rw [Nat.succ_mul] at hk; omega)]
      · rw [if_neg hk, if_neg (by rw [Nat.succ_mul] at hk; omega)]

section
variable {P : Program} {X μ : List Nat} {s : ASt} {a : Act} {w : World} {o : Oper} {L : List Nat}

theorem zero_rows {z : Array Value} {n : Nat} (hz : ∀ u ∈ z.toList, u.oneCell' = true) (hs : 0 < z.size) : C.repl L μ w (List.replicate n (z.toList.map .sc)).flatten ((Array.range (n * z.size)).map (z[· % z.size]!)).toList := by
  have hl : (z.toList.map C.sc).length = z.size := by simp
  refine C.repl_of ?_ (fun j c u h1 h2 => ?_)
  · rw [flatten_length (s := z.size) (fun r hr => by rw [List.eq_of_mem_replicate hr, hl])]; simp
  · rw [flatten_replicate, hl] at h1
    split at h1
    · rename_i hj
      simp only [Array.toList_map, List.getElem?_map, Array.toList_range, List.getElem?_range hj, Option.map_some, Option.some.injEq] at h2
      have hm : j % z.size < z.size := Nat.mod_lt _ hs
      rw [List.getElem?_map, Array.getElem?_toList, Array.getElem?_eq_getElem hm] at h1
      simp only [Option.map_some, Option.some.injEq] at h1
      have e : z[j % z.size]! = z[j % z.size] := getElem!_pos z _ hm
      rw [e] at h2
      subst h1 h2
      simp only [C.rep, true_and]
      exact hz _ (by simp)
    · cases h1

theorem arow_sound {size : Nat} {L : List Nat} (he : ∀ o v, s.eval o = some v → AV.rep L μ w v (a.eval o)) :
    ∀ (parts : List (Nat × Operand)) (rows rows' : List (List C)) (cells : Array Value), arow size (parts.map fun p => (p.1, s.eval p.2)) rows = some rows' → (∀ r ∈ rows, r.length = size) → C.repl L μ w rows.flatten cells.toList →
      ∃ cells', Instr.fill (fun i => some (i * size, size)) cells (parts.map fun p => (p.1, a.eval p.2)) = some cells' ∧ C.repl L μ w rows'.flatten cells'.toList ∧ (∀ r ∈ rows', r.length = size) ∧ rows'.length = rows.length
  | [], rows, rows', cells, h, hl, hr => by
    simp only [List.map_nil, arow, Option.some.injEq] at h
    subst h
    exact ⟨cells, rfl, hr, hl, rfl⟩
  | (i, x) :: parts, rows, rows', cells, h, hl, hr => by
    simp only [List.map_cons, arow] at h
    split at h
    · rename_i xs hx
      split at h
      · rename_i hc
        obtain ⟨hxs, hi⟩ := hc
        have hxr := bind_cells (a := a) he hx
        have hxl := C.repl_length hxr
        have hcl := C.repl_length hr
        rw [flatten_length hl] at hcl
        have hfit : i * size + size ≤ rows.length * size := by
          have := Nat.mul_le_mul_right size (show i + 1 ≤ rows.length by omega)
          rwa [Nat.succ_mul] at this
        have hfold := fold_cells (i * size) (a.eval x).cells.toList cells (by simp only [Array.length_toList] at hcl hxl ⊢; omega)
        obtain ⟨cells', h1, h2, h3, h4⟩ := arow_sound he parts _ rows' ((a.eval x).cells.zipIdx.foldl (fun cs (x : Value × Nat) => cs.setIfInBounds (i * size + x.2) x.1) cells) h (by
            intro r hr
            rcases List.mem_or_eq_of_mem_set hr with hr | rfl
            · exact hl r hr
            · exact hxs) (by
          rw [show (a.eval x).cells.zipIdx.foldl (fun cs (x : Value × Nat) => cs.setIfInBounds (i * size + x.2) x.1) cells = (a.eval x).cells.toList.zipIdx.foldl (fun cs (x : Value × Nat) => cs.setIfInBounds (i * size + x.2) x.1) cells from by rw [← Array.toList_zipIdx, Array.foldl_toList], hfold, flatten_set hxs hl hi]
          exact C.repl_splice hr hxr (i * size))
        refine ⟨cells', ?_, h2, h3, by rw [h4]; simp⟩
        have hxs2 : (a.eval x).cells.size = size := by simp only [Array.length_toList] at hxl; omega
        simp only [List.map_cons, Instr.fill]
        rw [if_neg (by simp only [Array.length_toList] at hcl; simp; omega)]
        exact h1
      · cases h
    · cases h

theorem rep_row_new {μ : List Nat} {H : List Blk} {w w' : World} {n c sz : Nat} (hl : μ.length = H.length) (hc : n ≤ c) (hm : c ≤ maxLen) (hr : RowAt w' w.heap.size (c * sz)) : AV.rep L (μ ++ [w.heap.size]) w' (.one (.row sz H.length n)) (.slice (some ⟨w.heap.size, 0, none⟩) n c) := by
  simp only [AV.rep, C.rep]
  exact ⟨w.heap.size, c, getElem?_snoc.2 (.inr ⟨hl.symm, rfl⟩), rfl, hc, hm, hr⟩

theorem op_buildSlice {t : TypeId} {len : Nat} {parts : Array (Nat × Operand)} {v : AV} {h' : List Blk} (ho : o.op = .buildSlice t len parts) (hF : SimF X μ s a w) (hv : abuildSlice P s.h t len (parts.toList.map fun p => (p.1, s.eval p.2)) = .val v h') : OpNew P X μ s a w o v h' := by
  unfold abuildSlice at hv
  split at hv
  · rename_i ti hti
    obtain ⟨i, d, z, hi, hd, hz, hzc, hzs, rfl⟩ := tinfo_spec hti
    split at hv
    · rename_i te hte
      obtain ⟨i', d', z', hi', hd', hz', hzc', hzs', rfl⟩ := tinfo_spec hte
      split at hv
      · rename_i hk
        simp only at hk hv
        obtain ⟨hk, _, hsm, hpos⟩ := hk
        obtain ⟨e, rfl⟩ := tkind_slice (tkindP_eq hk (by decide))
        simp only [telem] at hi' hv
        split at hv
        · rename_i rows hrows
          injection hv with hv1 hv2
          subst hv1 hv2
          have hzl : ∀ r ∈ List.replicate len (z'.cells.toList.map C.sc), r.length = i'.size := fun r hr => by rw [List.eq_of_mem_replicate hr]; simp [hzs']
          have hzr : C.repl (X ++ alive μ s.h) μ w (List.replicate len (z'.cells.toList.map C.sc)).flatten ((Array.range (len * i'.size)).map (z'.cells[· % z'.cells.size]!)).toList := by
            have := zero_rows (L := X ++ alive μ s.h) (μ := μ) (w := w) (z := z'.cells) (n := len) hzc' (by omega)
            rwa [hzs'] at this ⊢
          obtain ⟨cells', h1, h2, h3, h4⟩ := arow_sound (a := a) (fun o v hv => hF.eval hv) parts.toList _ rows _ hrows hzl hzr
          have h5 : rows.length = len := by rw [h4]; simp
          have hcs : cells'.size = len * i'.size := by
            have := C.repl_length h2
            rw [flatten_length h3, h5] at this
            simpa using this
          have hrun : (execOp a.eval o).run P w = .ok (.value (.slice (some ⟨w.heap.size, 0, none⟩) len len)) (w.alloc (.cells cells' e)) := by
            by_cases hl0 : len = 0
            · subst hl0
              have : cells' = #[] := Array.eq_empty_of_size_eq_zero (by simpa using hcs)
              subst this
              have hp0 : parts = #[] := by
                cases hpl : parts.toList with
                | nil => simpa using hpl
                | cons p l =>
                  rw [hpl] at hrows
                  simp only [List.map_cons, List.replicate_zero, arow] at hrows
                  split at hrows <;> simp at hrows
              subst hp0
              have hr0 : Array.range 0 = #[] := rfl
              simp [execOp, ho, Instr.buildSlice, run_underlying' hd, run_sizeOf' hi', newRow, Instr.fill, hr0]
            · have hb := run_buildSlice (P := P) w t e len (parts.map fun (i, x) => (i, a.eval x)) cells' i' z' hd hi' hz' (by omega) (by
                intro h0
                rcases Nat.mul_eq_zero.1 h0 with h0 | h0
                · exact hl0 h0
                · omega) (by simpa using h1)
              simp only [execOp, ho, Sem.run_bind, hb, Result.andThen_ok, Sem.run_pure]
          obtain ⟨q1, q2⟩ := hF.sim.new (Keep.alloc _ w _) (heap_alloc_new w _) (ty := e) (Laid.flat h3 h2 (fun j u hu => by simpa using hu))
          exact ⟨_, _, _, hrun, q1, q2, rep_row_new hF.sim.len (Nat.le_refl _) (by simp only [maxLen]; have := Nat.le_mul_of_pos_right len hpos; omega) ⟨cells', e, heap_alloc_new w _, hcs⟩, Keep.alloc _ _ _⟩
        · cases hv
      · cases hv
    · cases hv
  · cases hv

theorem op_makeSlice {t : TypeId} {x y : Operand} {vx vy v : AV} {h' : List Blk} (ho : o.op = .makeSlice t x y) (hF : SimF X μ s a w) (hx : s.eval x = some vx) (hy : s.eval y = some vy) (hv : amakeSlice P s.h t vx vy = .val v h') : OpNew P X μ s a w o v h' := by
  have h1 := hF.eval hx
  have h2 := hF.eval hy
  unfold amakeSlice at hv
  split at hv
  · rename_i ti k n k' c hti
    obtain ⟨i, d, z, hi, hd, hz, hzc, hzs, rfl⟩ := tinfo_spec hti
    split at hv
    · rename_i te hte
      obtain ⟨i', d', z', hi', hd', hz', hzc', hzs', rfl⟩ := tinfo_spec hte
      split at hv
      · rename_i hk
        simp only at hk hv
        obtain ⟨hk, _, hpos, hnc, hn0, hby, hmx⟩ := hk
        subst hnc
        obtain ⟨e, rfl⟩ := tkind_slice (tkindP_eq hk (by decide))
        simp only [telem] at hi' hv
        injection hv with hv1 hv2
        subst hv1 hv2
        have e1 := AV.sc_eq h1
        have e2 := AV.sc_eq h2
        have hmk := run_make (P := P) w t e i' z' hd hi' hz' k k' n n hn0 (Int.le_refl _) (by omega) (by omega)
        have hrun : (execOp a.eval o).run P w = .ok (.value (.slice (some ⟨w.heap.size, 0, none⟩) n.toNat n.toNat)) (w.alloc (.cells (madeCells z'.cells (n.toNat * i'.size)) e)) := by
          simp only [execOp, ho, e1, e2, Sem.run_bind, hmk, Result.andThen_ok, Sem.run_pure]
        have hzr : C.repl (X ++ alive μ s.h) μ w (List.replicate n.toNat (z'.cells.toList.map C.sc)).flatten (madeCells z'.cells (n.toNat * i'.size)).toList := by
          have := zero_rows (L := X ++ alive μ s.h) (μ := μ) (w := w) (z := z'.cells) (n := n.toNat) hzc' (by omega)
          rw [hzs'] at this
          rw [madeCells, hzs']
          exact this
        obtain ⟨q1, q2⟩ := hF.sim.new (Keep.alloc _ w _) (heap_alloc_new w _) (ty := e) (s := i'.size) (Laid.flat (fun r hr => by rw [List.eq_of_mem_replicate hr]; simp [hzs']) hzr (fun j u hu => by simpa using hu))
        exact ⟨_, _, _, hrun, q1, q2, rep_row_new hF.sim.len (Nat.le_refl _) (by simp only [maxLen]; omega) ⟨_, e, heap_alloc_new w _, size_madeCells _ _⟩, Keep.alloc _ _ _⟩
      · cases hv
    · cases hv
  · cases hv
end
end Go.Proofs.Sh
/- Append. -/
namespace Go.Proofs.Sh
open Go.RowKit

def Blk.dead (k : Blk) : Blk := ⟨k.s, k.ty, .dead, []⟩

/-- a block is forgotten -/
theorem Sim.kill {X μ : List Nat} {H : List Blk} {w : World} {b : Nat} {k : Blk} (h : Sim X μ H w) (hb : H[b]? = some k) : Sim X μ (H.set b k.dead) w ∧ Stp μ H w μ (H.set b k.dead) w := by
  have hmem : ∀ x, x ∈ alive μ (H.set b k.dead) → x ∈ alive μ H := fun x hx => by
    obtain ⟨i, q, h1, h2, h3⟩ := mem_alive.1 hx
    rcases (set_get hb).1 h2 with ⟨rfl, rfl⟩ | ⟨_, h2⟩
    · cases h3
    · exact mem_alive.2 ⟨i, q, h1, h2, h3⟩
  have hS : Stp μ H w μ (H.set b k.dead) w := ⟨Keep.refl _ _, fun _ _ e => e, fun x hx _ => hmem x hx⟩
  refine ⟨⟨by simp [h.len], h.lt, h.xlt, ?_, ?_, ?_⟩, hS⟩
  · intro i q g hi hq hg
    rcases (set_get hb).1 hi with ⟨rfl, rfl⟩ | ⟨_, hi⟩
    · cases hq
    · exact h.out i q g hi hq hg
  · intro i j q q' g hij hi hj hq hq' hgi hgj
    rcases (set_get hb).1 hi with ⟨rfl, rfl⟩ | ⟨_, hi⟩
    · cases hq
    · rcases (set_get hb).1 hj with ⟨rfl, rfl⟩ | ⟨_, hj⟩
      · cases hq'
      · exact h.inj i j q q' g hij hi hj hq hq' hgi hgj
  · intro i q g hi hq hg
    rcases (set_get hb).1 hi with ⟨rfl, rfl⟩ | ⟨_, hi⟩
    · cases hq
    · obtain ⟨c, h1, h2⟩ := h.blk i q g hi hq hg
      exact ⟨c, h1, h2.carry hS.carry⟩

/-- an own block is written, and goes by a new number -/
theorem Sim.regrow {X μ : List Nat} {H : List Blk} {w : World} {b g s : Nat} {k : Blk} {cur cur' : Array Value} {rows : List (List C)} (h : Sim X μ H w) (hb : H[b]? = some k) (hm : k.st.isMut = true) (hg : μ[b]? = some g)
    (hc : w.heap[g]? = some (.cells cur k.ty (0, 0))) (hsz : cur'.size = cur.size) (hl : Laid (X ++ alive μ H) μ w cur' s rows) :
    Sim X (μ ++ [g]) (H.set b k.dead ++ [⟨s, k.ty, .mut, rows⟩]) (w.setRow g cur') ∧ Stp μ H w (μ ++ [g]) (H.set b k.dead ++ [⟨s, k.ty, .mut, rows⟩]) (w.setRow g cur') := by
  have hga : g ∈ alive μ H := mem_alive.2 ⟨b, k, hg, hb, hm⟩
  have hK := Keep.setRow (w := w) hga hc hsz
  obtain ⟨hD, _⟩ := h.kill hb
  have hmem : ∀ x, x ∈ alive (μ ++ [g]) (H.set b k.dead ++ [⟨s, k.ty, .mut, rows⟩]) → x ∈ alive μ H := fun x hx => by
    rcases (mem_alive_snoc (b := ⟨s, k.ty, .mut, rows⟩) hD.len).1 hx with hx | ⟨rfl, _⟩
    · obtain ⟨i, q, h1, h2, h3⟩ := mem_alive.1 hx
      rcases (set_get hb).1 h2 with ⟨rfl, rfl⟩ | ⟨_, h2⟩
      · cases h3
      · exact mem_alive.2 ⟨i, q, h1, h2, h3⟩
    · exact hga
  have hS : Stp μ H w (μ ++ [g]) (H.set b k.dead ++ [⟨s, k.ty, .mut, rows⟩]) (w.setRow g cur') := ⟨hK, fun b g hb => getElem?_snoc.2 (.inl hb), fun x hx _ => hmem x hx⟩
  have hsize : (w.setRow g cur').heap.size = w.heap.size := by simp [World.setRow]
  have hlen := h.len
  refine ⟨⟨by simp [h.len], ?_, fun x hx => by rw [hsize]; exact h.xlt x hx, ?_, ?_, ?_⟩, hS⟩
  · intro x hx
    rw [hsize]
    rcases List.mem_append.1 hx with hx | hx
    · exact h.lt x hx
    · simp at hx; subst hx; exact h.lt _ (List.mem_of_getElem? hg)
  · intro i q gg hi hq hgi
    rw [getElem?_snoc] at hi hgi
    simp only [List.length_set] at hi
    rcases hgi with hgi | ⟨hgi, rfl⟩
    · rcases hi with hi | ⟨hi, rfl⟩
      · rcases (set_get hb).1 hi with ⟨rfl, rfl⟩ | ⟨_, hi⟩
        · cases hq
        · exact h.out i q gg hi hq hgi
      · have := (List.getElem?_eq_some_iff.1 hgi).1; omega
    · exact h.out b k gg hb (known_of_mut hm) hg
  · intro i j q q' gg hij hi hj hq hq' hgi hgj
    rw [getElem?_snoc] at hi hj hgi hgj
    simp only [List.length_set] at hi hj
    have old : ∀ (i : Nat) (q : Blk), (H.set b k.dead)[i]? = some q → q.st.known = true → i ≠ b ∧ H[i]? = some q := fun i q hi hq => by
      rcases (set_get hb).1 hi with ⟨rfl, rfl⟩ | hi
      · cases hq
      · exact hi
    have mk : ∀ q : Blk, q.st.isMut = true → q.st.known = true := fun q hq => by cases hst : q.st <;> simp [St.isMut, St.known, hst] at hq ⊢
    rcases hi with hi | ⟨hi, rfl⟩
    · obtain ⟨hib, hi⟩ := old i q hi (mk q hq)
      rcases hgi with hgi | ⟨hgi, rfl⟩
      · rcases hj with hj | ⟨hj, rfl⟩
        · obtain ⟨hjb, hj⟩ := old j q' hj hq'
          rcases hgj with hgj | ⟨hgj, rfl⟩
          · exact h.inj i j q q' gg hij hi hj hq hq' hgi hgj
          · have := (List.getElem?_eq_some_iff.1 hj).1; omega
        · rcases hgj with hgj | ⟨hgj, rfl⟩
          · have := (List.getElem?_eq_some_iff.1 hgj).1; omega
          · exact h.inj b i k q gg (Ne.symm hib) hb hi hm (mk q hq) hg hgi
      · have := (List.getElem?_eq_some_iff.1 hi).1; omega
    · rcases hgi with hgi | ⟨hgi, rfl⟩
      · have := (List.getElem?_eq_some_iff.1 hgi).1; omega
      · rcases hj with hj | ⟨hj, rfl⟩
        · obtain ⟨hjb, hj⟩ := old j q' hj hq'
          rcases hgj with hgj | ⟨hgj, _⟩
          · exact h.inj b j k q' gg (Ne.symm hjb) hb hj hm hq' hg hgj
          · have := (List.getElem?_eq_some_iff.1 hj).1; omega
        · omega
  · intro i q gg hi hq hgi
    rw [getElem?_snoc] at hi hgi
    simp only [List.length_set] at hi
    rcases hi with hi | ⟨hi, rfl⟩
    · rcases (set_get hb).1 hi with ⟨rfl, rfl⟩ | ⟨hne, hi⟩
      · cases hq
      · rcases hgi with hgi | ⟨hgi, rfl⟩
        · obtain ⟨c, hc', hl'⟩ := h.blk i q gg hi hq hgi
          have hne2 : gg ≠ g := fun e => by subst e; exact h.inj b i k q gg (Ne.symm hne) hb hi hm hq hg hgi
          exact ⟨c, by rw [setRow_other w g gg _ hne2]; exact hc', hl'.carry hS.carry⟩
        · have := (List.getElem?_eq_some_iff.1 hi).1; omega
    · rcases hgi with hgi | ⟨hgi, rfl⟩
      · have := (List.getElem?_eq_some_iff.1 hgi).1; omega
      · exact ⟨cur', setRow_heap w gg cur cur' _ _ hc, hl.carry hS.carry⟩

section
variable {P : Program} {X μ : List Nat} {s : ASt} {a : Act} {w : World} {o : Oper} {L : List Nat}


/-- the rows of a slice, as they lie in memory -/
theorem arows_spec {H : List Blk} {v : AV} {u : Value} {r : List C} {rs : List (List C)} (hS : Sim X μ H w) (h : arows H v = some (r :: rs)) (hr : AV.rep (X ++ alive μ H) μ w v u) :
    ∃ ad c news, u = .slice (some ad) (rs.length + 1) c ∧ C.repl (X ++ alive μ H) μ w (r :: rs).flatten news ∧ (∀ (j : Nat) (u : Value), news[j]? = some u → w.cell? (ad.add j) = some u) := by
  unfold arows at h
  split at h
  · injection h with h
    subst h
    simp only [AV.rep, C.rep] at hr
    obtain ⟨p, cap, rfl, _, _, h3⟩ := hr
    rcases h3 with h3 | ⟨b, off, s', rfl, _, _, h3⟩
    · cases h3
    · obtain ⟨us, q1, _, q3⟩ := C.repss_vals h3
      exact ⟨⟨b, off, none⟩, cap, us, by simp, C.repl.carry Carry.any q1, fun j u hu => by rw [addr_add]; exact q3 j u hu⟩
  · rename_i s' b n
    split at h
    · rename_i k hb
      split at h
      · rename_i hk
        injection h with h
        simp only [AV.rep, C.rep] at hr
        obtain ⟨g, cap, hg, rfl, _, _, _⟩ := hr
        obtain ⟨cur, hc, hl⟩ := hS.blk b k g hb hk.1 hg
        obtain ⟨us, q1, _, q3⟩ := C.repss_vals (hl.repss hc)
        rw [h] at q1
        have hn : n = rs.length + 1 := by rw [← hk.2, h]; simp
        exact ⟨_, cap, us, by rw [hn], q1, fun j u hu => by rw [addr_add]; exact q3 j u hu⟩
      · cases h
    · cases h
  · cases h

theorem rowsLen_spec {n : Nat} {rows : List (List C)} (h : rowsLen n rows = true) : ∀ r ∈ rows, r.length = n := fun r hr => by
  have := List.all_eq_true.1 h r hr
  simpa using this

theorem Laid.take_append {cur : Array Value} {sz : Nat} {rows rows' : List (List C)} {olds news : List Value} (h1 : ∀ r ∈ rows, r.length = sz) (h2 : ∀ r ∈ rows', r.length = sz) (ho : C.repl L μ w rows.flatten olds) (hn : C.repl L μ w rows'.flatten news)
    (hc : ∀ (j : Nat) (u : Value), (olds ++ news)[j]? = some u → cur[j]? = some u) : Laid L μ w cur sz (rows ++ rows') :=
  Laid.flat (us := olds ++ news) (fun r hr => by rcases List.mem_append.1 hr with hr | hr; exact h1 r hr; exact h2 r hr) (by rw [List.flatten_append]; exact C.repl_append ho hn) hc

/-- .. an append; which blocks it may write: from B on, if the appended one lies there -/
def OpApp (P : Program) (X μ : List Nat) (s : ASt) (a : Act) (w : World) (o : Oper) (vx v : AV) (h' : List Blk) : Prop := ∃ u w' μ', (execOp a.eval o).run P w = .ok (.value u) w' ∧ Sim X μ' h' w' ∧ Stp μ s.h w μ' h' w' ∧ AV.rep (X ++ alive μ' h') μ' w' v u ∧
  ∀ B, (∀ s' b n g, vx = .one (.row s' b n) → μ[b]? = some g → B ≤ g) → B ≤ w.heap.size → (∃ L, Keep L w w' ∧ ∀ z ∈ L, B ≤ z) ∧ ∀ g, s.h.length < h'.length → μ'[s.h.length]? = some g → B ≤ g
theorem OpApp.ok {vx v : AV} {h' : List Blk} (h : OpApp P X μ s a w o vx v h') : OpOK P X μ s a w o v h' := by
  obtain ⟨u, w', μ', h1, h2, h3, h4, _⟩ := h
  exact ⟨u, w', μ', h1, h2, h3, h4⟩
theorem snoc_last {μ : List Nat} {H : List Blk} {B n g : Nat} (hl : μ.length = H.length) (hB : B ≤ n) (hg : (μ ++ [n])[H.length]? = some g) : B ≤ g := by
  rw [getElem?_snoc] at hg
  rcases hg with hg | ⟨_, rfl⟩
  · have := (List.getElem?_eq_some_iff.1 hg).1; omega
  · exact hB

theorem op_append1 {t : TypeId} {x y : Operand} {vx vy v : AV} {h' : List Blk} (ho : o.op = .call ⟨.builtin .append, #[x, y], #[t, t]⟩) (hF : SimF X μ s a w) (hx : s.eval x = some vx) (hy : s.eval y = some vy) (hv : aappend1 P s.h t vx vy = .val v h') : OpApp P X μ s a w o vx v h' := by
  have h1 := hF.eval hx
  have h2 := hF.eval hy
  have exec : ∀ (u : Value) (w' : World), (Builtin.append_ #[t, t] o.type #[a.eval x, a.eval y]).run P w = .ok u w' → (execOp a.eval o).run P w = .ok (.value u) w' := fun u w' hr => by
    simp only [execOp, ho, resolve, invoke, builtin, Sem.run_bind, Sem.run_pure, Result.andThen_ok, List.map_toArray, List.map_cons, List.map_nil, hr]
  unfold aappend1 at hv
  split at hv
  · rename_i ti r rs hti hrows
    obtain ⟨i, d, z, hi, hd, hz, hzc, hzs, rfl⟩ := tinfo_spec hti
    obtain ⟨ad, c, news, he2, hnr, hnc⟩ := arows_spec hF.sim hrows h2
    split at hv
    · rename_i te hte
      obtain ⟨i', d', z', hi', hd', hz', hzc', hzs', rfl⟩ := tinfo_spec hte
      split at hv
      · rename_i hk
        obtain ⟨hk, _, hpos, hbp⟩ := hk
        obtain ⟨e, rfl⟩ := tkind_slice (tkindP_eq hk (by decide))
        simp only [telem] at hi'
        have hpos : 0 < i'.size := hpos
        have hbp : 0 < i'.bytes := hbp
        split at hv
        · split at hv
          · rename_i hcnd
            obtain ⟨hby, hrl⟩ := hcnd
            have hby : (rs.length + 1) * i'.bytes ≤ 140737488355328 := hby
            have hrl : rowsLen i'.size (r :: rs) = true := hrl
            injection hv with hv1 hv2
            subst hv1 hv2
            have hrl' := rowsLen_spec hrl
            have hnl : news.length = (rs.length + 1) * i'.size := by rw [C.repl_length hnr, flatten_length hrl']; simp
            have e1 := AV.sc_eq h1
            have hm63 : rs.length + 1 ≤ 140737488355328 := Nat.le_trans (Nat.le_mul_of_pos_right _ hbp) hby
            have hrun := run_append_nil (P := P) w t o.type e i' z' hd hi' hz' ad (rs.length + 1) c news hnl hnc (by omega) (by omega) (by omega)
            rw [← e1, ← he2] at hrun
            obtain ⟨q1, q2⟩ := hF.sim.new ((Keep.drew [] w).trans (Keep.alloc [] w.drew _) (by simp)) (heap_alloc_new w.drew _) (ty := e) (s := i'.size) (rows := r :: rs) (cur := news.toArray ++ Builtin.zeroCells z'.cells (grownCap w (rs.length + 1) 0 e - (rs.length + 1)))
              (Laid.flat hrl' hnr (fun j u hu => by rw [Array.getElem?_append_left (by have := (List.getElem?_eq_some_iff.1 hu).1; simpa using this)]; simpa using hu))
            have hge := grownCap_ge w (rs.length + 1) 0 e
            exact ⟨_, _, _, exec _ _ hrun, q1, q2, rep_row_new hF.sim.len hge (grownCap_le_maxLen w _ 0 e (by simp only [maxLen]; omega)) ⟨_, e, heap_alloc_new w.drew _, by
              rw [Array.size_append, List.size_toArray, size_zeroCells, hnl, hzs', ← Nat.add_mul]; congr 1; omega⟩,
              fun B _ hB => ⟨⟨[], (Keep.drew [] w).trans (Keep.alloc [] w.drew _) (by simp), by simp⟩, fun g _ hg => snoc_last hF.sim.len hB hg⟩⟩
          · cases hv
        · rename_i sx b n
          split at hv
          · rename_i k hb
            split at hv
            · rename_i hcnd
              obtain ⟨hby, hsx, hks, hkt, hm, hkn, hrl⟩ := hcnd
              have hsx : sx = i'.size := hsx
              subst hsx
              have hks : k.s = i'.size := hks
              have hkt : k.ty = e := hkt
              have hby : (n + (rs.length + 1)) * i'.bytes ≤ 140737488355328 := hby
              have hrl : rowsLen i'.size (r :: rs) = true := hrl
              injection hv with hv1 hv2
              subst hv1 hv2
              have hrl' := rowsLen_spec hrl
              have hnl : news.length = (rs.length + 1) * i'.size := by rw [C.repl_length hnr, flatten_length hrl']; simp
              have hno := C.repl_one hnr
              simp only [AV.rep, C.rep] at h1
              obtain ⟨g, cap, hg, e1, hncap, hcm, hrow⟩ := h1
              obtain ⟨cur, hc, hl⟩ := hF.sim.blk b k g hb (known_of_mut hm) hg
              have hcs : cur.size = cap * i'.size := by
                obtain ⟨cur2, ty2, hc2, hs2⟩ := hrow
                rw [hc] at hc2; cases hc2; exact hs2
              have hrows1 : ∀ r ∈ k.rows, r.length = i'.size := fun r hr => by
                obtain ⟨i0, hi0⟩ := List.getElem?_of_mem hr
                rw [← hks]; exact (hl i0 r hi0).1
              obtain ⟨us, hus, hul, huc⟩ := C.repss_vals (hl.repss hc)
              rw [hks] at hul
              have hucur : ∀ (j : Nat) (u : Value), us[j]? = some u → cur[j]? = some u := fun j u hu => by
                have := huc j u hu
                simp only [World.cell?, hc, Nat.zero_add] at this
                simpa using this
              have hm63 : n + (rs.length + 1) ≤ 140737488355328 := Nat.le_trans (Nat.le_mul_of_pos_right _ hbp) hby
              rw [hkt] at hc
              by_cases hroom : n + (rs.length + 1) ≤ cap
              · have hfit : n * i'.size + news.length ≤ cur.size := by rw [hnl, hcs, ← Nat.add_mul]; exact Nat.mul_le_mul_right _ hroom
                have hrun := run_append_room (P := P) w t o.type e i' hd hi' g n cap cur hc ad (rs.length + 1) c news hnl hnc hno hroom hfit
                rw [← e1, ← he2] at hrun
                have hn' : us.length = n * i'.size := by rw [hul, hkn]
                rw [← hkt] at hc
                obtain ⟨q1, q2⟩ := hF.sim.regrow (s := i'.size) (rows := k.rows ++ (r :: rs)) (cur' := (cur.toList.take (n * i'.size) ++ news ++ cur.toList.drop (n * i'.size + news.length)).toArray) hb hm hg hc (by simp; omega) (Laid.take_append hrows1 hrl' hus hnr (fun j u hu => by
                  rw [repl_at _ _ _ _ hfit]
                  by_cases hj : j < us.length
                  · rw [List.getElem?_append_left hj] at hu
                    rw [if_neg (by omega)]
                    exact hucur j u hu
                  · rw [List.getElem?_append_right (by omega)] at hu
                    have := (List.getElem?_eq_some_iff.1 hu).1
                    rw [if_pos (by omega), ← hu]
                    congr 1; omega))
                rw [hkt] at q1 q2
                refine ⟨_, _, _, exec _ _ hrun, q1, q2, ?_, fun B hb2 _ => ⟨⟨[g], Keep.setRow (by simp) hc (by simp; omega), fun z hz => by simp only [List.mem_singleton] at hz; subst hz; exact hb2 _ _ _ _ rfl hg⟩, fun g' _ hg' => snoc_last hF.sim.len (hb2 _ _ _ _ rfl hg) hg'⟩⟩
                simp only [AV.rep, C.rep]
                exact ⟨g, cap, getElem?_snoc.2 (.inr ⟨hF.sim.len.symm, rfl⟩), rfl, hroom, hcm, ⟨_, _, setRow_heap w g cur _ _ _ hc, by simp; omega⟩⟩
              · have holds : ∀ (j : Nat) (u : Value), us[j]? = some u → w.cell? ((⟨g, 0, none⟩ : Addr).add j) = some u := fun j u hu => by rw [addr_add]; exact huc j u hu
                have hrun := run_append_grow (P := P) w t o.type e i' z' hd hi' hz' ⟨g, 0, none⟩ n cap us (by rw [hul, hkn]) holds ad (rs.length + 1) c news hnl hnc (by omega) (by omega) (growslice_fits (by omega) hby)
                rw [← e1, ← he2] at hrun
                obtain ⟨d1, d2⟩ := hF.sim.kill hb
                obtain ⟨q1, q2⟩ := d1.new ((Keep.drew [] w).trans (Keep.alloc [] w.drew _) (by simp)) (heap_alloc_new w.drew _) (ty := e) (s := i'.size) (rows := k.rows ++ (r :: rs)) (cur := us.toArray ++ news.toArray ++ Builtin.zeroCells z'.cells (grownCap w (n + (rs.length + 1)) cap e - (n + (rs.length + 1))))
                  ((Laid.take_append hrows1 hrl' hus hnr (fun j u hu => by
                    have := (List.getElem?_eq_some_iff.1 hu).1
                    rw [Array.getElem?_append_left (by simpa using this)]
                    simpa using hu)).carry d2.carry)
                have hge := grownCap_ge w (n + (rs.length + 1)) cap e
                refine ⟨_, _, _, exec _ _ hrun, q1, d2.trans q2, ?_, fun B _ hB => ⟨⟨[], (Keep.drew [] w).trans (Keep.alloc [] w.drew _) (by simp), by simp⟩, fun g' _ hg' => snoc_last hF.sim.len hB hg'⟩⟩
                have := rep_row_new (L := X ++ alive (μ ++ [w.heap.size]) (s.h.set b k.dead ++ [⟨i'.size, e, .mut, k.rows ++ (r :: rs)⟩])) (w' := w.drew.alloc (.cells (us.toArray ++ news.toArray ++ Builtin.zeroCells z'.cells (grownCap w (n + (rs.length + 1)) cap e - (n + (rs.length + 1)))) e)) (sz := i'.size) d1.len hge (grownCap_le_maxLen w _ cap e (by simp only [maxLen]; omega)) ⟨_, e, heap_alloc_new w.drew _, by
                  rw [Array.size_append, Array.size_append, List.size_toArray, List.size_toArray, size_zeroCells, hnl, hul, hkn, hzs', ← Nat.add_mul, ← Nat.add_mul]; congr 1; omega⟩
                rw [show (s.h.set b k.dead).length = s.h.length from by simp] at this
                exact this
            · cases hv
          · cases hv
        · cases hv
      · cases hv
    · cases hv
  · cases hv
theorem aempty_spec {v : AV} {u : Value} {L : List Nat} (h : aempty v = true) (hr : AV.rep L μ w v u) : ∃ p c, u = .slice p 0 c := by
  unfold aempty at h
  split at h
  · simp only [AV.rep, C.rep] at hr
    obtain ⟨p, cap, e, _⟩ := hr
    exact ⟨p, cap, e⟩
  · simp only [AV.rep, C.rep] at hr
    obtain ⟨g, cap, _, e, _⟩ := hr
    exact ⟨_, cap, e⟩
  · exact ⟨_, _, AV.sc_eq hr⟩
  · cases h
theorem aisSlice_spec {v : AV} {u : Value} {L : List Nat} (h : aisSlice v = true) (hr : AV.rep L μ w v u) : ∃ p n c, u = .slice p n c ∧ n ≤ c := by
  unfold aisSlice at h
  split at h
  · simp only [AV.rep, C.rep] at hr
    obtain ⟨p, cap, e, h1, _⟩ := hr
    exact ⟨p, _, cap, e, h1⟩
  · simp only [AV.rep, C.rep] at hr
    obtain ⟨g, cap, _, e, h1, _⟩ := hr
    exact ⟨_, _, cap, e, h1⟩
  · exact ⟨none, 0, 0, AV.sc_eq hr, Nat.le_refl _⟩
  · cases h
theorem op_append {t : TypeId} {x y : Operand} {vx vy v : AV} {h' : List Blk} (ho : o.op = .call ⟨.builtin .append, #[x, y], #[t, t]⟩) (hF : SimF X μ s a w) (hx : s.eval x = some vx) (hy : s.eval y = some vy) (hv : aappend P s.h t vx vy = .val v h') : OpApp P X μ s a w o vx v h' := by
  unfold aappend at hv
  split at hv
  · rename_i hem
    have h1 := hF.eval hx
    have h2 := hF.eval hy
    have exec : ∀ (u : Value) (w' : World), (Builtin.append_ #[t, t] o.type #[a.eval x, a.eval y]).run P w = .ok u w' → (execOp a.eval o).run P w = .ok (.value u) w' := fun u w' hr => by
      simp only [execOp, ho, resolve, invoke, builtin, Sem.run_bind, Sem.run_pure, Result.andThen_ok, List.map_toArray, List.map_cons, List.map_nil, hr]
    unfold asame at hv
    split at hv
    · rename_i ti hti
      obtain ⟨i, d, z, hi, hd, hz, hzc, hzs, rfl⟩ := tinfo_spec hti
      split at hv
      · rename_i te hte
        obtain ⟨i', d', z', hi', hd', hz', hzc', hzs', rfl⟩ := tinfo_spec hte
        split at hv
        · rename_i hk
          obtain ⟨hk, hsl⟩ := hk
          obtain ⟨e, rfl⟩ := tkind_slice (tkindP_eq hk (by decide))
          simp only [telem] at hi'
          injection hv with hv1 hv2
          subst hv1 hv2
          obtain ⟨py, cy, ey⟩ := aempty_spec hem h2
          obtain ⟨px, n, cx, ex, hle⟩ := aisSlice_spec hsl h1
          refine ⟨a.eval x, w, μ, exec _ _ ?_, hF.sim, Stp.refl _ _ _, h1, fun B _ _ => ⟨⟨[], Keep.refl _ _, by simp⟩, fun g hlt _ => absurd hlt (Nat.lt_irrefl _)⟩⟩
          rw [ex, ey]
          cases px <;> cases py <;> simp [Builtin.append_, run_underlying' hd, run_sizeOf' hi', Builtin.lenOf, hle, Builtin.firstCells, loadCells, loadCellsFrom, storeCells]
        · cases hv
      · cases hv
    · cases hv
  · exact op_append1 ho hF hx hy hv
end
end Go.Proofs.Sh
/- What is handed over at a call, and what comes back. -/
namespace Go.Proofs.Sh
open Go.RowKit

/-- cells that name none of the own blocks -/
def C.tree : C → Bool
  | .top => true
  | .sc (.slice none 0 0) => false
  | .sc _ => true
  | .sl _ => true
  | _ => false
def treeL (cs : List C) : Bool := cs.all C.tree
def treeRows (rows : List (List C)) : Bool := rows.all treeL

def fzL (f : C → Option (C × List Nat)) : List C → Option (List C × List Nat)
  | [] => some ([], [])
  | c :: cs => match f c, fzL f cs with
    | some (c', i), some (cs', j) => some (c' :: cs', i ++ j)
    | _, _ => none
def fzRows (f : C → Option (C × List Nat)) : List (List C) → Option (List (List C) × List Nat)
  | [] => some ([], [])
  | r :: rows => match fzL f r, fzRows f rows with
    | some (r', i), some (rows', j) => some (r' :: rows', i ++ j)
    | _, _ => none
/-- a cell as a tree, and the own blocks that may then be written no more -/
def fz (h : List Blk) : Nat → C → Option (C × List Nat)
  | _, .top => some (.top, [])
  | _, .sc (.slice none 0 0) => some (.sl [], [])
  | _, .sc v => some (.sc v, [])
  | _, .sl rows => some (.sl rows, [])
  | d + 1, .row _ b n => match h[b]? with
    | some k => if k.st.known = true ∧ k.rows.length = n then
        (if treeRows k.rows then some (.sl k.rows, [b]) else match fzRows (fz h d) k.rows with
          | some (rows, ids) => some (.sl rows, b :: ids)
          | none => none)
      else none
    | none => none
  | _, _ => none

theorem C.rep_tree {L μ : List Nat} {w : World} {c : C} {u : Value} (ht : c.tree = true) (h : C.rep L μ w c u) : C.rep L [] w c u := by
  cases c <;> first | (simp [C.tree] at ht; done) | (simp only [C.rep] at h ⊢; exact h)
theorem C.repl_tree {L μ : List Nat} {w : World} : ∀ {cs : List C} {us : List Value}, treeL cs = true → C.repl L μ w cs us → C.repl L [] w cs us
  | [], us, _, h => by simpa [C.repl] using h
  | c :: cs, us, ht, h => by
    simp only [treeL, List.all_cons, Bool.and_eq_true] at ht
    simp only [C.repl] at h ⊢
    obtain ⟨u, us', h1, h2, h3⟩ := h
    exact ⟨u, us', h1, C.rep_tree ht.1 h2, C.repl_tree ht.2 h3⟩

theorem fzL_get {f : C → Option (C × List Nat)} : ∀ {cs cs' : List C} {ids : List Nat}, fzL f cs = some (cs', ids) → cs'.length = cs.length ∧ ∀ (j : Nat) (c' : C), cs'[j]? = some c' → ∃ c i, cs[j]? = some c ∧ f c = some (c', i) ∧ ∀ b ∈ i, b ∈ ids
  | [], cs', ids, h => by
    simp only [fzL, Option.some.injEq, Prod.mk.injEq] at h
    obtain ⟨rfl, rfl⟩ := h
    simp
  | c :: cs, cs', ids, h => by
    simp only [fzL] at h
    split at h
    · rename_i c1 i cs1 j h1 h2
      simp only [Option.some.injEq, Prod.mk.injEq] at h
      obtain ⟨rfl, rfl⟩ := h
      obtain ⟨q1, q2⟩ := fzL_get h2
      refine ⟨by simp [q1], fun m c' hm => ?_⟩
      cases m with
      | zero => simp at hm; subst hm; exact ⟨c, i, rfl, h1, fun b hb => by simp [hb]⟩
      | succ m =>
        obtain ⟨c2, i2, e1, e2, e3⟩ := q2 m c' (by simpa using hm)
        exact ⟨c2, i2, by simpa using e1, e2, fun b hb => by simp [e3 b hb]⟩
    · cases h
theorem fzRows_get {f : C → Option (C × List Nat)} : ∀ {rows rows' : List (List C)} {ids : List Nat}, fzRows f rows = some (rows', ids) → rows'.length = rows.length ∧ ∀ (j : Nat) (r' : List C), rows'[j]? = some r' → ∃ r i, rows[j]? = some r ∧ fzL f r = some (r', i) ∧ ∀ b ∈ i, b ∈ ids
  | [], cs', ids, h => by
    simp only [fzRows, Option.some.injEq, Prod.mk.injEq] at h
    obtain ⟨rfl, rfl⟩ := h
    simp
  | c :: cs, cs', ids, h => by
    simp only [fzRows] at h
    split at h
    · rename_i c1 i cs1 j h1 h2
      simp only [Option.some.injEq, Prod.mk.injEq] at h
      obtain ⟨rfl, rfl⟩ := h
      obtain ⟨q1, q2⟩ := fzRows_get h2
      refine ⟨by simp [q1], fun m c' hm => ?_⟩
      cases m with
      | zero => simp at hm; subst hm; exact ⟨c, i, rfl, h1, fun b hb => by simp [hb]⟩
      | succ m =>
        obtain ⟨c2, i2, e1, e2, e3⟩ := q2 m c' (by simpa using hm)
        exact ⟨c2, i2, by simpa using e1, e2, fun b hb => by simp [e3 b hb]⟩
    · cases h

section
variable {X μ : List Nat} {h : List Blk} {w : World}

/-- rows of an own block as rows of trees -/
theorem Laid.trees {L L' : List Nat} {cur : Array Value} {s g : Nat} {ty : TypeId} {rows rows' : List (List C)} (hl : Laid L μ w cur s rows) (hg : w.heap[g]? = some (.cells cur ty (0, 0)))
    (hlen : rows'.length = rows.length) (hr : ∀ (i : Nat) (r' : List C), rows'[i]? = some r' → ∃ r, rows[i]? = some r ∧ r'.length = r.length ∧ ∀ (j : Nat) (c' : C), r'[j]? = some c' → ∃ c, r[j]? = some c ∧ ∀ u, C.rep L μ w c u → C.rep L' [] w c' u) : Laid L' [] w cur s rows' := by
  intro i r' hi
  obtain ⟨r, h1, h2, h3⟩ := hr i r' hi
  obtain ⟨q1, q2⟩ := hl i r h1
  refine ⟨by rw [h2, q1], fun j c' hj => ?_⟩
  obtain ⟨c, e1, e2⟩ := h3 j c' hj
  obtain ⟨u, hu, hv⟩ := q2 j c e1
  exact ⟨u, hu, e2 u hv⟩

theorem C.rep.sub {L L' μ : List Nat} {w : World} {c : C} {u : Value} (hs : ∀ x, x ∈ L' → x ∈ L) (h : C.rep L μ w c u) : C.rep L' μ w c u :=
  C.rep.carry (K := []) ⟨Keep.refl _ _, fun _ _ _ => by simp, fun x _ hx hm => hx (hs x hm), fun _ _ h => h⟩ h

theorem fz_sound (hS : Sim X μ h w) {L' : List Nat} (hL : ∀ x, x ∈ L' → x ∈ X ++ alive μ h) : ∀ (d : Nat) (c c' : C) (ids : List Nat) (u : Value), fz h d c = some (c', ids) → (∀ b ∈ ids, ∀ g, μ[b]? = some g → g ∉ L') → C.rep (X ++ alive μ h) μ w c u → C.rep L' [] w c' u := by
  intro d
  induction d with
  | zero =>
    intro c c' ids u hf hids hr
    unfold fz at hf
    split at hf <;> (try (cases hf; done))
    · injection hf with hf; simp only [Prod.mk.injEq] at hf; obtain ⟨rfl, rfl⟩ := hf; simpa [C.rep] using hr
    · injection hf with hf; simp only [Prod.mk.injEq] at hf; obtain ⟨rfl, rfl⟩ := hf
      simp only [C.rep] at hr ⊢; exact ⟨none, 0, by simpa using hr.1, by simp, by simp [maxLen], .inl trivial⟩
    · injection hf with hf; simp only [Prod.mk.injEq] at hf; obtain ⟨rfl, rfl⟩ := hf; simpa [C.rep] using hr
    · injection hf with hf; simp only [Prod.mk.injEq] at hf; obtain ⟨rfl, rfl⟩ := hf
      have := C.rep.sub hL hr
      simp only [C.rep] at this ⊢; exact this
    · rename_i hd; cases hd
  | succ d ih =>
    intro c c' ids u hf hids hr
    unfold fz at hf
    split at hf <;> (try (cases hf; done))
    · injection hf with hf; simp only [Prod.mk.injEq] at hf; obtain ⟨rfl, rfl⟩ := hf; simpa [C.rep] using hr
    · injection hf with hf; simp only [Prod.mk.injEq] at hf; obtain ⟨rfl, rfl⟩ := hf
      simp only [C.rep] at hr ⊢; exact ⟨none, 0, by simpa using hr.1, by simp, by simp [maxLen], .inl trivial⟩
    · injection hf with hf; simp only [Prod.mk.injEq] at hf; obtain ⟨rfl, rfl⟩ := hf; simpa [C.rep] using hr
    · injection hf with hf; simp only [Prod.mk.injEq] at hf; obtain ⟨rfl, rfl⟩ := hf
      have := C.rep.sub hL hr
      simp only [C.rep] at this ⊢; exact this
    · rename_i d' sx b n hd
      obtain rfl : d = d' := by omega
      split at hf
      · rename_i k hb
        split at hf
        · rename_i hk
          simp only [C.rep] at hr
          obtain ⟨g, cap, hg, rfl, hnc, hcm, _⟩ := hr
          obtain ⟨cur, hc, hl⟩ := hS.blk b k g hb hk.1 hg
          have hglt := hS.lt g (List.mem_of_getElem? hg)
          have fin : ∀ (rows' : List (List C)), rows'.length = k.rows.length → Laid L' [] w cur k.s rows' → g ∉ L' → C.rep L' [] w (.sl rows') (.slice (some ⟨g, 0, none⟩) n cap) := by
            intro rows' hlen hl' hgL
            simp only [C.rep]
            have : rows'.length = n := by rw [hlen, hk.2]
            exact ⟨_, cap, by rw [this], by omega, hcm, .inr ⟨g, 0, k.s, rfl, hglt, hgL, hl'.repss hc⟩⟩
          split at hf
          · rename_i ht
            injection hf with hf; simp only [Prod.mk.injEq] at hf; obtain ⟨rfl, rfl⟩ := hf
            refine fin k.rows rfl (hl.trees hc rfl fun i r' hi => ⟨r', hi, rfl, fun j c' hj => ⟨c', hj, fun u hu => ?_⟩⟩) (hids b (by simp) g hg)
            have h1 := List.all_eq_true.1 ht r' (List.mem_of_getElem? hi)
            have h2 := List.all_eq_true.1 h1 c' (List.mem_of_getElem? hj)
            exact C.rep_tree h2 (C.rep.sub hL hu)
          · split at hf
            · rename_i rows' ids' hfr
              injection hf with hf; simp only [Prod.mk.injEq] at hf; obtain ⟨rfl, rfl⟩ := hf
              obtain ⟨e1, e2⟩ := fzRows_get hfr
              refine fin rows' e1 (hl.trees hc e1 fun i r' hi => ?_) (hids b (by simp) g hg)
              obtain ⟨r, i1, q1, q2, q3⟩ := e2 i r' hi
              obtain ⟨q4, q5⟩ := fzL_get q2
              refine ⟨r, q1, q4, fun j c' hj => ?_⟩
              obtain ⟨c, i2, p1, p2, p3⟩ := q5 j c' hj
              exact ⟨c, p1, fun u hu => ih c c' i2 u p2 (fun b hb => hids b (by simp [q3 b (p3 b hb)])) hu⟩
            · cases hf
        · cases hf
      · cases hf
end

/-! ### freezing -/
def Blk.frz (k : Blk) : Blk := ⟨k.s, k.ty, .frz, k.rows⟩
def frzAt : List Nat → List Blk → List Blk
  | [], h => h
  | b :: ids, h => frzAt ids (match h[b]? with | some k => h.set b k.frz | none => h)

theorem Sim.frz {X μ : List Nat} {H : List Blk} {w : World} {b : Nat} {k : Blk} (h : Sim X μ H w) (hb : H[b]? = some k) (hk : k.st.known = true) : Sim X μ (H.set b k.frz) w ∧ Stp μ H w μ (H.set b k.frz) w := by
  have hmem : ∀ x, x ∈ alive μ (H.set b k.frz) → x ∈ alive μ H := fun x hx => by
    obtain ⟨i, q, h1, h2, h3⟩ := mem_alive.1 hx
    rcases (set_get hb).1 h2 with ⟨rfl, rfl⟩ | ⟨_, h2⟩
    · cases h3
    · exact mem_alive.2 ⟨i, q, h1, h2, h3⟩
  have hS : Stp μ H w μ (H.set b k.frz) w := ⟨Keep.refl _ _, fun _ _ e => e, fun x hx _ => hmem x hx⟩
  refine ⟨⟨by simp [h.len], h.lt, h.xlt, ?_, ?_, ?_⟩, hS⟩
  · intro i q g hi hq hg
    rcases (set_get hb).1 hi with ⟨rfl, rfl⟩ | ⟨_, hi⟩
    · exact h.out i k g hb hk hg
    · exact h.out i q g hi hq hg
  · intro i j q q' g hij hi hj hq hq' hgi hgj
    rcases (set_get hb).1 hi with ⟨rfl, rfl⟩ | ⟨_, hi2⟩
    · cases hq
    · rcases (set_get hb).1 hj with ⟨rfl, rfl⟩ | ⟨_, hj⟩
      · exact h.inj i j q k g hij hi2 hb hq hk hgi hgj
      · exact h.inj i j q q' g hij hi2 hj hq hq' hgi hgj
  · intro i q g hi hq hg
    rcases (set_get hb).1 hi with ⟨rfl, rfl⟩ | ⟨_, hi⟩
    · obtain ⟨c, h1, h2⟩ := h.blk i k g hb hk hg
      exact ⟨c, h1, h2.carry hS.carry⟩
    · obtain ⟨c, h1, h2⟩ := h.blk i q g hi hq hg
      exact ⟨c, h1, h2.carry hS.carry⟩

/-- the same block, but for how far it may be written -/
def Blk.le (k' k : Blk) : Prop := k'.s = k.s ∧ k'.ty = k.ty ∧ k'.rows = k.rows ∧ k'.st.known = k.st.known ∧ (k'.st.isMut = true → k.st.isMut = true)
theorem Blk.le_refl (k : Blk) : k.le k := ⟨rfl, rfl, rfl, rfl, id⟩
theorem Blk.le_trans {a b c : Blk} (h : a.le b) (k : b.le c) : a.le c := ⟨h.1.trans k.1, h.2.1.trans k.2.1, h.2.2.1.trans k.2.2.1, h.2.2.2.1.trans k.2.2.2.1, fun x => k.2.2.2.2 (h.2.2.2.2 x)⟩

theorem frzAt_spec {X μ : List Nat} {w : World} : ∀ (ids : List Nat) {H : List Blk}, Sim X μ H w → (∀ b ∈ ids, ∃ k, H[b]? = some k ∧ k.st.known = true) →
    Sim X μ (frzAt ids H) w ∧ Stp μ H w μ (frzAt ids H) w ∧ (frzAt ids H).length = H.length ∧ (∀ (i : Nat) (k : Blk), H[i]? = some k → ∃ k', (frzAt ids H)[i]? = some k' ∧ k'.le k ∧ (i ∈ ids → k'.st.isMut = false) ∧ (i ∉ ids → k' = k))
  | [], H, h, _ => ⟨h, Stp.refl _ _ _, rfl, fun i k hi => ⟨k, hi, Blk.le_refl k, by simp, fun _ => rfl⟩⟩
  | b :: ids, H, h, hk => by
    obtain ⟨k, hb, hkn⟩ := hk b (by simp)
    obtain ⟨h1, h2⟩ := h.frz hb hkn
    have hle : k.frz.le k := ⟨rfl, rfl, rfl, by rw [hkn]; rfl, fun e => by cases e⟩
    obtain ⟨q1, q2, q3, q4⟩ := frzAt_spec ids h1 (fun b' hb' => by
      obtain ⟨k', e1, e2⟩ := hk b' (by simp [hb'])
      by_cases e : b' = b
      · subst e; exact ⟨k.frz, (set_get hb).2 (.inl ⟨rfl, rfl⟩), rfl⟩
      · exact ⟨k', (set_get hb).2 (.inr ⟨e, e1⟩), e2⟩)
    simp only [frzAt, hb]
    refine ⟨q1, h2.trans q2, by rw [q3]; simp, fun i k0 hi => ?_⟩
    by_cases e : i = b
    · subst e
      rw [hb] at hi; cases hi
      obtain ⟨k', p1, p2, p3, p4⟩ := q4 i k.frz ((set_get hb).2 (.inl ⟨rfl, rfl⟩))
      refine ⟨k', p1, Blk.le_trans p2 hle, fun _ => ?_, fun hn => absurd (by simp) hn⟩
      cases hm : k'.st.isMut
      · rfl
      · have := p2.2.2.2.2 hm; cases this
    · obtain ⟨k', p1, p2, p3, p4⟩ := q4 i k0 ((set_get hb).2 (.inr ⟨e, hi⟩))
      exact ⟨k', p1, p2, fun hm => by
        rcases List.mem_cons.1 hm with hm | hm
        · exact absurd hm e
        · exact p3 hm, fun hn => p4 (fun hm => hn (by simp [hm]))⟩
end Go.Proofs.Sh
/- Handing over values and own blocks. -/
namespace Go.Proofs.Sh
open Go.RowKit

def pos (b : Nat) : List Nat → Option Nat
  | [] => none
  | x :: l => if x = b then some 0 else match pos b l with | some i => some (i + 1) | none => none
theorem pos_spec {b : Nat} : ∀ {l : List Nat} {i : Nat}, pos b l = some i → l[i]? = some b
  | [], i, h => by simp [pos] at h
  | x :: l, i, h => by
    simp only [pos] at h
    split at h
    · rename_i e; cases h; simp [e]
    · split at h
      · rename_i i' h'; cases h; simpa using pos_spec h'
      · cases h
theorem pos_none {b : Nat} : ∀ {l : List Nat}, pos b l = none → b ∉ l
  | [], _ => by simp
  | x :: l, h => by
    simp only [pos] at h
    split at h
    · cases h
    · rename_i e
      split at h
      · cases h
      · rename_i h'
        have := pos_none h'
        simp only [List.mem_cons, not_or]
        exact ⟨fun e' => e e'.symm, this⟩

mutual
def prC (z : Bool) (h : List Blk) (ks : List Nat) : C → Option (C × List Nat)
  | .ptr s b i j => match pos b ks with | some b' => some (.ptr s b' i j, []) | none => none
  | .row s b n => match pos b ks with | some b' => some (.row s b' n, []) | none => fz h 6 (.row s b n)
  | .fn f caps => match prCs z h ks caps with | some (cs, ids) => some (.fn f cs, ids) | none => none
  | .cur _ _ => none
  | .top => some (.top, [])
  | .sc v => match z with | true => fz h 6 (.sc v) | false => some (.sc v, [])
  | .sl rows => some (.sl rows, [])
def prCs (z : Bool) (h : List Blk) (ks : List Nat) : List C → Option (List C × List Nat)
  | [] => some ([], [])
  | c :: cs => match prC z h ks c, prCs z h ks cs with
    | some (c', i), some (cs', j) => some (c' :: cs', i ++ j)
    | _, _ => none
end
def prL (z : Bool) (h : List Blk) (ks : List Nat) (cs : List C) : Option (List C × List Nat) := if treeL cs then some (cs, []) else prCs z h ks cs
mutual
def prV (z : Bool) (h : List Blk) (ks : List Nat) : AV → Option (AV × List Nat)
  | .one c => match prC z h ks c with | some (c, ids) => some (.one c, ids) | none => none
  | .agg cs => match prL z h ks cs with | some (cs, ids) => some (.agg cs, ids) | none => none
  | .tup vs => match prVs z h ks vs with | some (vs, ids) => some (.tup vs, ids) | none => none
def prVs (z : Bool) (h : List Blk) (ks : List Nat) : List AV → Option (List AV × List Nat)
  | [] => some ([], [])
  | v :: vs => match prV z h ks v, prVs z h ks vs with
    | some (v', i), some (vs', j) => some (v' :: vs', i ++ j)
    | _, _ => none
end
def prRs (h : List Blk) (ks : List Nat) : List (List C) → Option (List (List C) × List Nat)
  | [] => some ([], [])
  | r :: rows => match prL false h ks r, prRs h ks rows with
    | some (r', i), some (rows', j) => some (r' :: rows', i ++ j)
    | _, _ => none
def prR (h : List Blk) (ks : List Nat) (rows : List (List C)) : Option (List (List C) × List Nat) := if treeRows rows then some (rows, []) else prRs h ks rows
def prH (h : List Blk) (all : List Nat) : List Nat → Option (List Blk × List Nat)
  | [] => some ([], [])
  | b :: ks => match h[b]? with
    | some k => if k.st.known = true then match prR h all k.rows, prH h all ks with
        | some (rows, i), some (K, j) => some (⟨k.s, k.ty, k.st, rows⟩ :: K, i ++ j)
        | _, _ => none
      else match prH h all ks with
        | some (K, j) => some (⟨k.s, k.ty, .dead, []⟩ :: K, j)
        | none => none
    | none => none
def apart (ids ks : List Nat) : Bool := ids.all (fun b => !ks.contains b)
def nodupB : List Nat → Bool
  | [] => true
  | x :: l => !l.contains x && nodupB l
/-- values and the own blocks ks as another's: the values, the blocks, and one's own blocks then -/
def prep (z : Bool) (h : List Blk) (ks : List Nat) (vs : List AV) : Option (List AV × List Blk × List Blk) :=
  match prVs z h ks vs, prH h ks ks with
  | some (vs', i), some (K, j) => if apart (i ++ j) ks = true ∧ nodupB ks = true then some (vs', K, frzAt (i ++ j) h) else none
  | _, _ => none

/-- .. at a call: all of them known -/
def prepC (h : List Blk) (ks : List Nat) (vs : List AV) : Option (List AV × List Blk × List Blk) :=
  match prep true h ks vs with
  | some (vs', H, h1) => if H.all (fun k => k.st.known) = true then some (vs', H, h1) else none
  | none => none
theorem prepC_some {h : List Blk} {ks : List Nat} {vs vs' : List AV} {H h1 : List Blk} (e : prepC h ks vs = some (vs', H, h1)) : prep true h ks vs = some (vs', H, h1) ∧ H.all (fun k => k.st.known) = true := by
  unfold prepC at e
  split at e
  · rename_i a b c hp
    split at e
    · rename_i hk
      simp only [Option.some.injEq, Prod.mk.injEq] at e
      obtain ⟨rfl, rfl, rfl⟩ := e
      exact ⟨hp, hk⟩
    · cases e
  · cases e
theorem prepC_nil {h : List Blk} {vs vs' : List AV} {h1 : List Blk} (e : prep true h [] vs = some (vs', [], h1)) : prepC h [] vs = some (vs', [], h1) := by
  unfold prepC; rw [e]; rfl

theorem nodupB_spec : ∀ {l : List Nat}, nodupB l = true → l.Nodup
  | [], _ => List.nodup_nil
  | x :: l, h => by
    simp only [nodupB, Bool.and_eq_true, Bool.not_eq_true', List.contains_eq_mem, decide_eq_false_iff_not] at h
    exact List.nodup_cons.2 ⟨h.1, nodupB_spec h.2⟩

def KnownIds (h : List Blk) (ids : List Nat) : Prop := ∀ b ∈ ids, ∃ k, h[b]? = some k ∧ k.st.known = true
theorem KnownIds.append {h : List Blk} {i j : List Nat} (a : KnownIds h i) (b : KnownIds h j) : KnownIds h (i ++ j) := fun x hx => by
  rcases List.mem_append.1 hx with hx | hx
  · exact a x hx
  · exact b x hx
theorem KnownIds.nil (h : List Blk) : KnownIds h [] := fun x hx => by simp at hx
theorem fzL_known {h : List Blk} {f : C → Option (C × List Nat)} (hf : ∀ c c' i, f c = some (c', i) → KnownIds h i) : ∀ {cs cs' ids}, fzL f cs = some (cs', ids) → KnownIds h ids
  | [], cs', ids, e => by simp only [fzL, Option.some.injEq, Prod.mk.injEq] at e; rw [← e.2]; exact KnownIds.nil h
  | c :: cs, cs', ids, e => by
    simp only [fzL] at e
    split at e
    · rename_i c1 i c2 j h1 h2
      simp only [Option.some.injEq, Prod.mk.injEq] at e
      rw [← e.2]
      exact (hf _ _ _ h1).append (fzL_known hf h2)
    · cases e
theorem fzRows_known {h : List Blk} {f : C → Option (C × List Nat)} (hf : ∀ c c' i, f c = some (c', i) → KnownIds h i) : ∀ {cs cs' ids}, fzRows f cs = some (cs', ids) → KnownIds h ids
  | [], cs', ids, e => by simp only [fzRows, Option.some.injEq, Prod.mk.injEq] at e; rw [← e.2]; exact KnownIds.nil h
  | c :: cs, cs', ids, e => by
    simp only [fzRows] at e
    split at e
    · rename_i c1 i c2 j h1 h2
      simp only [Option.some.injEq, Prod.mk.injEq] at e
      rw [← e.2]
      exact (fzL_known hf h1).append (fzRows_known hf h2)
    · cases e
theorem fz_known {h : List Blk} : ∀ (d : Nat) (c c' : C) (ids : List Nat), fz h d c = some (c', ids) → KnownIds h ids := by
  intro d
  induction d with
  | zero =>
    intro c c' ids e
    unfold fz at e
    split at e <;> (try (cases e; done)) <;> first
      | (simp only [Option.some.injEq, Prod.mk.injEq] at e; rw [← e.2]; exact KnownIds.nil h)
      | (rename_i hd; cases hd)
  | succ d ih =>
    intro c c' ids e
    unfold fz at e
    split at e <;> (try (cases e; done)) <;> try (simp only [Option.some.injEq, Prod.mk.injEq] at e; rw [← e.2]; exact KnownIds.nil h)
    rename_i d' sx b n hd
    obtain rfl : d = d' := by omega
    split at e
    · rename_i k hb
      split at e
      · rename_i hk
        have hb1 : KnownIds h [b] := fun x hx => by simp at hx; subst hx; exact ⟨k, hb, hk.1⟩
        split at e
        · simp only [Option.some.injEq, Prod.mk.injEq] at e; rw [← e.2]; exact hb1
        · split at e
          · rename_i rows i hr
            simp only [Option.some.injEq, Prod.mk.injEq] at e; rw [← e.2]
            exact hb1.append (fzRows_known ih hr)
          · cases e
      · cases e
    · cases e
theorem fz_sc {h : List Blk} {d : Nat} {v : Value} {c' : C} {ids : List Nat} (e : fz h d (.sc v) = some (c', ids)) : ids = [] := by
  unfold fz at e
  split at e <;> (try (cases e; done)) <;> first
    | (simp only [Option.some.injEq, Prod.mk.injEq] at e; exact e.2.symm)
    | (rename_i hd; cases hd)

section
variable {X X' μ : List Nat} {h : List Blk} {w : World}

/-- what the pieces of a handing over ask -/
structure Hand (X' X μ : List Nat) (h : List Blk) (L' : List Nat) (ks ids : List Nat) : Prop where
  sub : ∀ x, x ∈ L' → x ∈ X ++ alive μ h
  ids : ∀ b ∈ ids, ∀ g, μ[b]? = some g → g ∉ L'

def mapK (μ ks : List Nat) : List Nat := ks.map fun b => μ.getD b 0
theorem mapK_get {ks : List Nat} {b b' g : Nat} (hp : ks[b']? = some b) (hg : μ[b]? = some g) : (mapK μ ks)[b']? = some g := by
  simp only [mapK, List.getElem?_map, hp, Option.map_some, List.getD_eq_getElem?_getD, hg, Option.getD_some]

mutual
theorem prC_sound {z : Bool} (hS : Sim X μ h w) {L' ks all : List Nat} (hH : Hand X' X μ h L' ks all) : ∀ (c c' : C) (ids : List Nat) (u : Value), prC z h ks c = some (c', ids) → (∀ b ∈ ids, b ∈ all) → C.rep (X ++ alive μ h) μ w c u → C.rep L' (mapK μ ks) w c' u
  | .ptr s b i j, c', ids, u, e, _, hr => by
    simp only [prC] at e
    split at e
    · rename_i b' hb
      simp only [Option.some.injEq, Prod.mk.injEq] at e
      rw [← e.1]
      simp only [C.rep] at hr ⊢
      obtain ⟨g, hg, rfl⟩ := hr
      exact ⟨g, mapK_get (pos_spec hb) hg, rfl⟩
    · cases e
  | .row s b n, c', ids, u, e, hi, hr => by
    simp only [prC] at e
    split at e
    · rename_i b' hb
      simp only [Option.some.injEq, Prod.mk.injEq] at e
      rw [← e.1]
      simp only [C.rep] at hr ⊢
      obtain ⟨g, cap, hg, h2⟩ := hr
      exact ⟨g, cap, mapK_get (pos_spec hb) hg, h2⟩
    · exact C.rep.carry Carry.any (fz_sound hS hH.sub 6 _ c' ids u e (fun b hb => hH.ids b (hi b hb)) hr)
  | .fn f caps, c', ids, u, e, hi, hr => by
    simp only [prC] at e
    split at e
    · rename_i cs ids' hb
      simp only [Option.some.injEq, Prod.mk.injEq] at e
      rw [← e.1]
      simp only [C.rep] at hr ⊢
      obtain ⟨arr, rfl, h2⟩ := hr
      exact ⟨arr, rfl, prCs_sound hS hH caps cs ids' _ hb (by rw [e.2]; exact hi) h2⟩
    · cases e
  | .cur _ _, c', ids, u, e, _, hr => by simp [prC] at e
  | .top, c', ids, u, e, _, hr => by
    simp only [prC, Option.some.injEq, Prod.mk.injEq] at e
    rw [← e.1]; simpa [C.rep] using hr
  | .sc v, c', ids, u, e, hi, hr => by
    simp only [prC] at e
    split at e
    · exact C.rep.carry Carry.any (fz_sound hS hH.sub 6 _ c' ids u e (fun b hb => hH.ids b (hi b hb)) hr)
    · simp only [Option.some.injEq, Prod.mk.injEq] at e
      rw [← e.1]; simpa [C.rep] using hr
  | .sl rows, c', ids, u, e, _, hr => by
    simp only [prC, Option.some.injEq, Prod.mk.injEq] at e
    rw [← e.1]
    have := C.rep.sub hH.sub hr
    simp only [C.rep] at this ⊢
    exact this
theorem prCs_sound {z : Bool} (hS : Sim X μ h w) {L' ks all : List Nat} (hH : Hand X' X μ h L' ks all) : ∀ (cs cs' : List C) (ids : List Nat) (us : List Value), prCs z h ks cs = some (cs', ids) → (∀ b ∈ ids, b ∈ all) → C.repl (X ++ alive μ h) μ w cs us → C.repl L' (mapK μ ks) w cs' us
  | [], cs', ids, us, e, _, hr => by
    simp only [prCs, Option.some.injEq, Prod.mk.injEq] at e
    rw [← e.1]; simpa [C.repl] using hr
  | c :: cs, cs', ids, us, e, hi, hr => by
    simp only [prCs] at e
    split at e
    · rename_i c1 i1 c2 i2 h1 h2
      simp only [Option.some.injEq, Prod.mk.injEq] at e
      rw [← e.1]
      simp only [C.repl] at hr ⊢
      obtain ⟨u, us', rfl, r1, r2⟩ := hr
      rw [← e.2] at hi
      exact ⟨u, us', rfl, prC_sound hS hH c c1 i1 u h1 (fun b hb => hi b (by simp [hb])) r1, prCs_sound hS hH cs c2 i2 us' h2 (fun b hb => hi b (by simp [hb])) r2⟩
    · cases e
end
mutual
theorem prV_sound {z : Bool} (hS : Sim X μ h w) {L' ks all : List Nat} (hH : Hand X' X μ h L' ks all) : ∀ (v v' : AV) (ids : List Nat) (u : Value), prV z h ks v = some (v', ids) → (∀ b ∈ ids, b ∈ all) → AV.rep (X ++ alive μ h) μ w v u → AV.rep L' (mapK μ ks) w v' u
  | .one c, v', ids, u, e, hi, hr => by
    simp only [prV] at e
    split at e
    · rename_i c1 i1 h1
      simp only [Option.some.injEq, Prod.mk.injEq] at e
      rw [← e.1]
      simp only [AV.rep] at hr ⊢
      exact prC_sound hS hH c c1 i1 u h1 (by rw [e.2]; exact hi) hr
    · cases e
  | .agg cs, v', ids, u, e, hi, hr => by
    simp only [prV] at e
    split at e
    · rename_i c1 i1 h1
      simp only [Option.some.injEq, Prod.mk.injEq] at e
      rw [← e.1]
      simp only [AV.rep] at hr ⊢
      obtain ⟨arr, rfl, h2⟩ := hr
      refine ⟨arr, rfl, ?_⟩
      unfold prL at h1
      split at h1
      · rename_i ht
        simp only [Option.some.injEq, Prod.mk.injEq] at h1
        rw [← h1.1]
        exact C.repl.carry (K := []) ⟨Keep.refl _ _, fun _ _ _ => by simp, fun x _ hx hm => hx (hH.sub x hm), fun _ _ h => by simp at h⟩ (C.repl_tree ht h2)
      · exact prCs_sound hS hH cs c1 i1 _ h1 (by rw [e.2]; exact hi) h2
    · cases e
  | .tup vs, v', ids, u, e, hi, hr => by
    simp only [prV] at e
    split at e
    · rename_i c1 i1 h1
      simp only [Option.some.injEq, Prod.mk.injEq] at e
      rw [← e.1]
      simp only [AV.rep] at hr ⊢
      obtain ⟨arr, rfl, h2⟩ := hr
      exact ⟨arr, rfl, prVs_sound hS hH vs c1 i1 _ h1 (by rw [e.2]; exact hi) h2⟩
    · cases e
theorem prVs_sound {z : Bool} (hS : Sim X μ h w) {L' ks all : List Nat} (hH : Hand X' X μ h L' ks all) : ∀ (vs vs' : List AV) (ids : List Nat) (us : List Value), prVs z h ks vs = some (vs', ids) → (∀ b ∈ ids, b ∈ all) → AV.repl (X ++ alive μ h) μ w vs us → AV.repl L' (mapK μ ks) w vs' us
  | [], vs', ids, us, e, _, hr => by
    simp only [prVs, Option.some.injEq, Prod.mk.injEq] at e
    rw [← e.1]; simpa [AV.repl] using hr
  | v :: vs, vs', ids, us, e, hi, hr => by
    simp only [prVs] at e
    split at e
    · rename_i c1 i1 c2 i2 h1 h2
      simp only [Option.some.injEq, Prod.mk.injEq] at e
      rw [← e.1]
      simp only [AV.repl] at hr ⊢
      obtain ⟨u, us', rfl, r1, r2⟩ := hr
      rw [← e.2] at hi
      exact ⟨u, us', rfl, prV_sound hS hH v c1 i1 u h1 (fun b hb => hi b (by simp [hb])) r1, prVs_sound hS hH vs c2 i2 us' h2 (fun b hb => hi b (by simp [hb])) r2⟩
    · cases e
end
end
end Go.Proofs.Sh
/- Handing over: the whole; and taking back. -/
namespace Go.Proofs.Sh
open Go.RowKit

mutual
theorem prC_known {z : Bool} {h : List Blk} {ks : List Nat} : ∀ (c c' : C) (ids : List Nat), prC z h ks c = some (c', ids) → KnownIds h ids
  | .ptr s b i j, c', ids, e => by
    simp only [prC] at e
    split at e
    · simp only [Option.some.injEq, Prod.mk.injEq] at e; rw [← e.2]; exact KnownIds.nil h
    · cases e
  | .row s b n, c', ids, e => by
    simp only [prC] at e
    split at e
    · simp only [Option.some.injEq, Prod.mk.injEq] at e; rw [← e.2]; exact KnownIds.nil h
    · exact fz_known 6 _ _ _ e
  | .fn f caps, c', ids, e => by
    simp only [prC] at e
    split at e
    · rename_i cs i hc
      simp only [Option.some.injEq, Prod.mk.injEq] at e; rw [← e.2]; exact prCs_known caps cs i hc
    · cases e
  | .cur _ _, c', ids, e => by simp [prC] at e
  | .top, c', ids, e => by simp only [prC, Option.some.injEq, Prod.mk.injEq] at e; rw [← e.2]; exact KnownIds.nil h
  | .sc v, c', ids, e => by
    simp only [prC] at e
    split at e
    · exact fz_known 6 _ _ _ e
    · simp only [Option.some.injEq, Prod.mk.injEq] at e; rw [← e.2]; exact KnownIds.nil h
  | .sl rows, c', ids, e => by simp only [prC, Option.some.injEq, Prod.mk.injEq] at e; rw [← e.2]; exact KnownIds.nil h
theorem prCs_known {z : Bool} {h : List Blk} {ks : List Nat} : ∀ (cs cs' : List C) (ids : List Nat), prCs z h ks cs = some (cs', ids) → KnownIds h ids
  | [], cs', ids, e => by simp only [prCs, Option.some.injEq, Prod.mk.injEq] at e; rw [← e.2]; exact KnownIds.nil h
  | c :: cs, cs', ids, e => by
    simp only [prCs] at e
    split at e
    · rename_i c1 i1 c2 i2 h1 h2
      simp only [Option.some.injEq, Prod.mk.injEq] at e; rw [← e.2]
      exact (prC_known c c1 i1 h1).append (prCs_known cs c2 i2 h2)
    · cases e
end
mutual
theorem prV_known {z : Bool} {h : List Blk} {ks : List Nat} : ∀ (v v' : AV) (ids : List Nat), prV z h ks v = some (v', ids) → KnownIds h ids
  | .one c, v', ids, e => by
    simp only [prV] at e
    split at e
    · rename_i c1 i1 h1
      simp only [Option.some.injEq, Prod.mk.injEq] at e; rw [← e.2]; exact prC_known c c1 i1 h1
    · cases e
  | .agg cs, v', ids, e => by
    simp only [prV] at e
    split at e
    · rename_i c1 i1 h1
      simp only [Option.some.injEq, Prod.mk.injEq] at e; rw [← e.2]
      unfold prL at h1
      split at h1
      · simp only [Option.some.injEq, Prod.mk.injEq] at h1; rw [← h1.2]; exact KnownIds.nil h
      · exact prCs_known cs c1 i1 h1
    · cases e
  | .tup vs, v', ids, e => by
    simp only [prV] at e
    split at e
    · rename_i c1 i1 h1
      simp only [Option.some.injEq, Prod.mk.injEq] at e; rw [← e.2]; exact prVs_known vs c1 i1 h1
    · cases e
theorem prVs_known {z : Bool} {h : List Blk} {ks : List Nat} : ∀ (vs vs' : List AV) (ids : List Nat), prVs z h ks vs = some (vs', ids) → KnownIds h ids
  | [], vs', ids, e => by simp only [prVs, Option.some.injEq, Prod.mk.injEq] at e; rw [← e.2]; exact KnownIds.nil h
  | v :: vs, vs', ids, e => by
    simp only [prVs] at e
    split at e
    · rename_i c1 i1 c2 i2 h1 h2
      simp only [Option.some.injEq, Prod.mk.injEq] at e; rw [← e.2]
      exact (prV_known v c1 i1 h1).append (prVs_known vs c2 i2 h2)
    · cases e
end

theorem prL_known {z : Bool} {h : List Blk} {ks : List Nat} {cs cs' : List C} {ids : List Nat} (e : prL z h ks cs = some (cs', ids)) : KnownIds h ids := by
  unfold prL at e
  split at e
  · simp only [Option.some.injEq, Prod.mk.injEq] at e; rw [← e.2]; exact KnownIds.nil h
  · exact prCs_known _ _ _ e
theorem prRs_known {h : List Blk} {ks : List Nat} : ∀ {rows rows' : List (List C)} {ids : List Nat}, prRs h ks rows = some (rows', ids) → KnownIds h ids
  | [], rows', ids, e => by simp only [prRs, Option.some.injEq, Prod.mk.injEq] at e; rw [← e.2]; exact KnownIds.nil h
  | r :: rows, rows', ids, e => by
    simp only [prRs] at e
    split at e
    · rename_i c1 i1 c2 i2 h1 h2
      simp only [Option.some.injEq, Prod.mk.injEq] at e; rw [← e.2]
      exact (prL_known h1).append (prRs_known h2)
    · cases e
theorem prR_known {h : List Blk} {ks : List Nat} {rows rows' : List (List C)} {ids : List Nat} (e : prR h ks rows = some (rows', ids)) : KnownIds h ids := by
  unfold prR at e
  split at e
  · simp only [Option.some.injEq, Prod.mk.injEq] at e; rw [← e.2]; exact KnownIds.nil h
  · exact prRs_known e

theorem prH_spec {h : List Blk} {all : List Nat} : ∀ {ks : List Nat} {K : List Blk} {ids : List Nat}, prH h all ks = some (K, ids) → KnownIds h ids ∧ K.length = ks.length ∧
    ∀ (i b : Nat), ks[i]? = some b → ∃ k k', h[b]? = some k ∧ K[i]? = some k' ∧ k'.st = k.st ∧ (k.st.known = true → ∃ rows j, prR h all k.rows = some (rows, j) ∧ k' = ⟨k.s, k.ty, k.st, rows⟩ ∧ ∀ x ∈ j, x ∈ ids)
  | [], K, ids, e => by
    simp only [prH, Option.some.injEq, Prod.mk.injEq] at e
    obtain ⟨rfl, rfl⟩ := e
    exact ⟨KnownIds.nil h, rfl, by simp⟩
  | b :: ks, K, ids, e => by
    simp only [prH] at e
    split at e
    · rename_i k hb
      split at e
      · rename_i hk
        split at e
        · rename_i rows i K' j h1 h2
          simp only [Option.some.injEq, Prod.mk.injEq] at e
          obtain ⟨rfl, rfl⟩ := e
          obtain ⟨q1, q2, q3⟩ := prH_spec h2
          refine ⟨(prR_known h1).append q1, by simp [q2], fun m b' hm => ?_⟩
          cases m with
          | zero => simp at hm; subst hm; exact ⟨k, _, hb, rfl, rfl, fun _ => ⟨rows, i, h1, rfl, fun x hx => by simp [hx]⟩⟩
          | succ m =>
            obtain ⟨k', k2, p1, p2, p3, p4⟩ := q3 m b' (by simpa using hm)
            exact ⟨k', k2, p1, by simpa using p2, p3, fun h => let ⟨r, j', a1, a2, a3⟩ := p4 h; ⟨r, j', a1, a2, fun x hx => by simp [a3 x hx]⟩⟩
        · cases e
      · rename_i hk
        split at e
        · rename_i K' j h2
          simp only [Option.some.injEq, Prod.mk.injEq] at e
          obtain ⟨rfl, rfl⟩ := e
          obtain ⟨q1, q2, q3⟩ := prH_spec h2
          refine ⟨q1, by simp [q2], fun m b' hm => ?_⟩
          cases m with
          | zero =>
            simp at hm; subst hm
            refine ⟨k, _, hb, rfl, ?_, fun h => absurd h hk⟩
            cases hst : k.st <;> simp [hst, St.known] at hk ⊢
          | succ m =>
            obtain ⟨k', k2, p1, p2, p3, p4⟩ := q3 m b' (by simpa using hm)
            exact ⟨k', k2, p1, by simpa using p2, p3, p4⟩
        · cases e
    · cases e

section
variable {X μ : List Nat} {h : List Blk} {w : World}

theorem prCs_len {z : Bool} {ks : List Nat} : ∀ {cs cs' : List C} {ids : List Nat}, prCs z h ks cs = some (cs', ids) → cs'.length = cs.length
  | [], cs', ids, e => by simp only [prCs, Option.some.injEq, Prod.mk.injEq] at e; rw [← e.1]
  | c :: cs, cs', ids, e => by
    simp only [prCs] at e
    split at e
    · rename_i c1 i1 c2 i2 h1 h2
      simp only [Option.some.injEq, Prod.mk.injEq] at e; rw [← e.1]
      simp [prCs_len h2]
    · cases e
theorem prL_len {z : Bool} {ks : List Nat} {cs cs' : List C} {ids : List Nat} (e : prL z h ks cs = some (cs', ids)) : cs'.length = cs.length := by
  unfold prL at e
  split at e
  · simp only [Option.some.injEq, Prod.mk.injEq] at e; rw [← e.1]
  · exact prCs_len e
theorem prL_sound {z : Bool} {X' : List Nat} (hS : Sim X μ h w) {L' ks all : List Nat} (hH : Hand X' X μ h L' ks all) {cs cs' : List C} {ids : List Nat} {us : List Value} (e : prL z h ks cs = some (cs', ids)) (hi : ∀ b ∈ ids, b ∈ all) (hr : C.repl (X ++ alive μ h) μ w cs us) : C.repl L' (mapK μ ks) w cs' us := by
  unfold prL at e
  split at e
  · rename_i ht
    simp only [Option.some.injEq, Prod.mk.injEq] at e
    rw [← e.1]
    exact C.repl.carry (K := []) ⟨Keep.refl _ _, fun _ _ _ => by simp, fun x _ hx hm => hx (hH.sub x hm), fun _ _ h => by simp at h⟩ (C.repl_tree ht hr)
  · exact prCs_sound hS hH cs cs' ids us e hi hr
theorem prRs_get {ks : List Nat} : ∀ {rows rows' : List (List C)} {ids : List Nat}, prRs h ks rows = some (rows', ids) → rows'.length = rows.length ∧ ∀ (j : Nat) (r' : List C), rows'[j]? = some r' → ∃ r i, rows[j]? = some r ∧ prL false h ks r = some (r', i) ∧ ∀ b ∈ i, b ∈ ids
  | [], cs', ids, e => by
    simp only [prRs, Option.some.injEq, Prod.mk.injEq] at e
    obtain ⟨rfl, rfl⟩ := e
    simp
  | c :: cs, cs', ids, e => by
    simp only [prRs] at e
    split at e
    · rename_i c1 i cs1 j h1 h2
      simp only [Option.some.injEq, Prod.mk.injEq] at e
      obtain ⟨rfl, rfl⟩ := e
      obtain ⟨q1, q2⟩ := prRs_get h2
      refine ⟨by simp [q1], fun m c' hm => ?_⟩
      cases m with
      | zero => simp at hm; subst hm; exact ⟨c, i, rfl, h1, fun b hb => by simp [hb]⟩
      | succ m =>
        obtain ⟨c2, i2, e1, e2, e3⟩ := q2 m c' (by simpa using hm)
        exact ⟨c2, i2, by simpa using e1, e2, fun b hb => by simp [e3 b hb]⟩
    · cases e

/-- a row of an own block, as values -/
theorem Laid.row {L : List Nat} {cur : Array Value} {s i : Nat} {rows : List (List C)} {r : List C} (hl : Laid L μ w cur s rows) (hr : rows[i]? = some r) : C.repl L μ w r ((cur.toList.drop (i * s)).take s) := by
  obtain ⟨h1, h2⟩ := hl i r hr
  refine C.repl_of ?_ (fun j c u hj hu => ?_)
  · have hlen : ∀ j, j < r.length → i * s + j < cur.size := fun j hj => by
      obtain ⟨u, hu, _⟩ := h2 j _ (List.getElem?_eq_getElem hj)
      exact (Array.getElem?_eq_some_iff.1 hu).1
    simp only [List.length_take, List.length_drop, Array.length_toList]
    rcases Nat.eq_zero_or_pos r.length with h0 | hp
    · omega
    · have := hlen (r.length - 1) (by omega); omega
  · obtain ⟨u', hu', hv⟩ := h2 j c hj
    rw [List.getElem?_take] at hu
    split at hu
    · rw [List.getElem?_drop, Array.getElem?_toList, hu'] at hu
      cases hu; exact hv
    · cases hu

theorem prR_sound {X' : List Nat} (hS : Sim X μ h w) {L' ks all : List Nat} (hH : Hand X' X μ h L' ks all) {rows rows' : List (List C)} {ids : List Nat} {cur : Array Value} {s : Nat} (e : prR h ks rows = some (rows', ids)) (hids : ∀ b ∈ ids, b ∈ all)
    (hl : Laid (X ++ alive μ h) μ w cur s rows) : Laid L' (mapK μ ks) w cur s rows' := by
  have key : ∀ (i : Nat) (r r' : List C) (ids' : List Nat), rows[i]? = some r → prL false h ks r = some (r', ids') → (∀ b ∈ ids', b ∈ all) → r'.length = s ∧ ∀ (j : Nat) (c : C), r'[j]? = some c → ∃ u, cur[i * s + j]? = some u ∧ C.rep L' (mapK μ ks) w c u := by
    intro i r r' ids' hi hp hb
    have h1 := hl.row hi
    have h2 := prL_sound hS hH hp hb h1
    have h3 := prL_len hp
    have h4 := (hl i r hi).1
    refine ⟨by omega, fun j c hj => ?_⟩
    obtain ⟨u, hu, hv⟩ := C.repl_get h2 j c hj
    rw [List.getElem?_take] at hu
    split at hu
    · rw [List.getElem?_drop, Array.getElem?_toList] at hu
      exact ⟨u, hu, hv⟩
    · cases hu
  unfold prR at e
  split at e
  · rename_i ht
    simp only [Option.some.injEq, Prod.mk.injEq] at e
    rw [← e.1]
    intro i r hi
    have h1 := List.all_eq_true.1 ht r (List.mem_of_getElem? hi)
    exact key i r r [] hi (by simp only [prL, h1, if_true]) (by simp)
  · obtain ⟨e1, e2⟩ := prRs_get e
    intro i r' hi
    obtain ⟨r, i1, q1, q2, q3⟩ := e2 i r' hi
    exact key i r r' i1 q1 q2 (fun b hb => hids b (q3 b hb))

/-- the outcome of a handing over -/
structure Handed (X μ : List Nat) (h : List Blk) (w : World) (ks : List Nat) (vs' : List AV) (us : List Value) (K h1 : List Blk) : Prop where
  sim : Sim X μ h1 w
  stp : Stp μ h w μ h1 w
  nodup : ks.Nodup
  len : h1.length = h.length
  klen : K.length = ks.length
  blk : ∀ (i b : Nat), ks[i]? = some b → ∃ k k', h1[b]? = some k ∧ K[i]? = some k' ∧ k'.st = k.st
  out : ∀ X' : List Nat, (∀ x ∈ X', x ∈ X ++ alive μ h1) → (∀ (m g : Nat) (k : Blk), (mapK μ ks)[m]? = some g → K[m]? = some k → k.st.known = true → g ∉ X') → Sim X' (mapK μ ks) K w ∧ AV.repl (X' ++ alive (mapK μ ks) K) (mapK μ ks) w vs' us

theorem prep_sound {z : Bool} {ks : List Nat} {vs vs' : List AV} {K h1 : List Blk} {us : List Value} (hS : Sim X μ h w) (hp : prep z h ks vs = some (vs', K, h1)) (hr : AV.repl (X ++ alive μ h) μ w vs us) : Handed X μ h w ks vs' us K h1 := by
  unfold prep at hp
  split at hp
  · rename_i vs1 i K1 j hv hh
    split at hp
    · rename_i hc
      simp only [Option.some.injEq, Prod.mk.injEq] at hp
      obtain ⟨rfl, rfl, rfl⟩ := hp
      obtain ⟨hap, hnd⟩ := hc
      have hnd := nodupB_spec hnd
      obtain ⟨hk2, hkl, hkb⟩ := prH_spec hh
      have hk1 := prVs_known _ _ _ hv
      obtain ⟨s1, s2, s3, s4⟩ := frzAt_spec (i ++ j) hS (hk1.append hk2)
      have hnot : ∀ b ∈ i ++ j, b ∉ ks := fun b hb hm => by
        have := List.all_eq_true.1 hap b hb
        simp [hm] at this
      have hks : ∀ (m b : Nat), ks[m]? = some b → ∃ k, h[b]? = some k ∧ (frzAt (i ++ j) h)[b]? = some k := fun m b hm => by
        obtain ⟨k, k2, p1, p2, p3, p4⟩ := hkb m b hm
        obtain ⟨k', e1, _, _, e4⟩ := s4 b k p1
        have := e4 (fun hx => hnot b hx (List.mem_of_getElem? hm))
        rw [this] at e1
        exact ⟨k, p1, e1⟩
      refine ⟨s1, s2, hnd, s3, hkl, fun m b hm => ?_, fun X' hX1 hX2 => ?_⟩
      · obtain ⟨k, k2, p1, p2, p3, p4⟩ := hkb m b hm
        obtain ⟨k3, e1, e2⟩ := hks m b hm
        rw [p1] at e1; cases e1
        exact ⟨k, k2, e2, p2, p3⟩
      · have hget : ∀ (m g : Nat), (mapK μ ks)[m]? = some g → ∃ b k, ks[m]? = some b ∧ μ[b]? = some g ∧ (frzAt (i ++ j) h)[b]? = some k ∧ h[b]? = some k := fun m g hm => by
          simp only [mapK, List.getElem?_map, Option.map_eq_some_iff] at hm
          obtain ⟨b, hb, hg⟩ := hm
          obtain ⟨k, e0, e1⟩ := hks m b hb
          obtain ⟨g', hg', _⟩ := hS.get e0
          rw [List.getD_eq_getElem?_getD, hg', Option.getD_some] at hg
          subst hg
          exact ⟨b, k, hb, hg', e1, e0⟩
        have hal : ∀ x, x ∈ alive (mapK μ ks) K1 → x ∈ alive μ (frzAt (i ++ j) h) := fun x hx => by
          obtain ⟨m, q, h1, h2, h3⟩ := mem_alive.1 hx
          obtain ⟨b, k, hb, hg, e1, e0⟩ := hget m x h1
          obtain ⟨k', k2, p1, p2, p3, p4⟩ := hkb m b hb
          rw [e0] at p1; cases p1
          rw [p2] at h2; cases h2
          exact mem_alive.2 ⟨b, k, hg, e1, by rw [← p3]; exact h3⟩
        have hL1 : ∀ x, x ∈ X' ++ alive (mapK μ ks) K1 → x ∈ X ++ alive μ (frzAt (i ++ j) h) := fun x hx => by
          rcases List.mem_append.1 hx with hx | hx
          · exact hX1 x hx
          · exact List.mem_append.2 (.inr (hal x hx))
        have hL0 : ∀ x, x ∈ X' ++ alive (mapK μ ks) K1 → x ∈ X ++ alive μ h := fun x hx => by
          rcases List.mem_append.1 (hL1 x hx) with hx | hx
          · exact List.mem_append.2 (.inl hx)
          · exact List.mem_append.2 (.inr (s2.old x hx (s1.aliveLt hx)))
        have hids : ∀ b ∈ i ++ j, ∀ g, μ[b]? = some g → g ∉ X' ++ alive (mapK μ ks) K1 := fun b hb g hg hx => by
          obtain ⟨k, e1, e2⟩ := (hk1.append hk2) b hb
          rcases List.mem_append.1 (hL1 g hx) with hx | hx
          · exact hS.out b k g e1 e2 hg hx
          · obtain ⟨m, q, h1, h2, h3⟩ := mem_alive.1 hx
            obtain ⟨k', f1, f2, f3, _⟩ := s4 b k e1
            by_cases hm : m = b
            · subst hm
              rw [f1] at h2; cases h2
              rw [f3 hb] at h3; cases h3
            · exact s1.inj m b q k' g hm h2 f1 h3 (by rw [f2.2.2.2.1]; exact e2) h1 hg
        have hH : Hand X' X μ h (X' ++ alive (mapK μ ks) K1) ks (i ++ j) := ⟨hL0, hids⟩
        refine ⟨⟨by simp [mapK, hkl], ?_, ?_, ?_, ?_, ?_⟩, prVs_sound hS hH vs vs1 i us hv (fun b hb => by simp [hb]) hr⟩
        · intro g hg
          obtain ⟨m, hm⟩ := List.getElem?_of_mem hg
          obtain ⟨b, k, _, hb, _⟩ := hget m g hm
          exact hS.lt g (List.mem_of_getElem? hb)
        · intro g hg
          rcases List.mem_append.1 (hX1 g hg) with hx | hx
          · exact hS.xlt g hx
          · exact s1.aliveLt hx
        · intro m q g hq hk hg
          exact hX2 m g q hg hq hk
        · intro m1 m2 q q' g hne h1 h2 h3 h4 hg1 hg2
          obtain ⟨b1, k1, c1, c2, c3, c4⟩ := hget m1 g hg1
          obtain ⟨b2, k2, d1, d2, d3, d4⟩ := hget m2 g hg2
          obtain ⟨k', k3, p1, p2, p3, p4⟩ := hkb m1 b1 c1
          rw [c4] at p1; cases p1
          rw [p2] at h1; cases h1
          obtain ⟨k', k4, p5, p6, p7, p8⟩ := hkb m2 b2 d1
          rw [d4] at p5; cases p5
          rw [p6] at h2; cases h2
          have hb12 : b1 ≠ b2 := fun e => hne (by
            have l1 := (List.getElem?_eq_some_iff.1 c1); have l2 := (List.getElem?_eq_some_iff.1 d1)
            obtain ⟨l1, v1⟩ := l1; obtain ⟨l2, v2⟩ := l2
            have hpw := List.pairwise_iff_getElem.1 hnd
            rcases Nat.lt_trichotomy m1 m2 with hlt | heq | hgt
            · exact absurd (by rw [v1, v2, e]) (hpw m1 m2 l1 l2 hlt)
            · exact heq
            · exact absurd (by rw [v1, v2, e]) (hpw m2 m1 l2 l1 hgt))
          exact s1.inj b1 b2 k1 k2 g hb12 c3 d3 (by rw [← p3]; exact h3) (by rw [← p7]; exact h4) c2 d2
        · intro m q g h1 h2 hg
          obtain ⟨b, k, c1, c2, c3, c4⟩ := hget m g hg
          obtain ⟨k', k3, p1, p2, p3, p4⟩ := hkb m b c1
          rw [c4] at p1; cases p1
          rw [p2] at h1; cases h1
          rw [p3] at h2
          obtain ⟨rows, j', a1, a2, a3⟩ := p4 h2
          subst a2
          obtain ⟨cur, hc, hl⟩ := hS.blk b k g c4 h2 c2
          refine ⟨cur, hc, ?_⟩
          exact prR_sound hS hH a1 (fun x hx => by simp [a3 x hx]) hl
    · cases hp
  · cases hp
end
end Go.Proofs.Sh
