/- The walk of the reference's opening of a reader. -/
import Derived.Test.YtkkijdlgmlffoaaDr2
namespace Go.Proofs.Ytkkijdlgmlffoaa
open Go.RowKit Go.Proofs.Grad

/-- bytes in memory -/
def Bytes (w : World) (q : Option Addr) (n c : Nat) : Prop :=
  n ≤ c ∧ c ≤ maxLen ∧ ∀ i, i < n → ∃ b off, ∃ x : Int, q = some ⟨b, off, none⟩ ∧ b < w.heap.size ∧ w.cell? ⟨b, off + i, none⟩ = some (.int .u8 x) ∧ 0 ≤ x ∧ x ≤ 255

def OpenR (w : World) (e : Ending) (w' : World) : Prop :=
  e = .returned (.pointer (some ⟨w.heap.size, 0, none⟩)) ∧ Below w.heap.size w w' ∧ Rd w' w.heap.size 0 61

theorem Bytes.rd {w : World} {q : Option Addr} {n n' c : Nat} (h : Bytes w q n c) (hn : n' ≤ n) (h2 : n' ≤ 2000) :
    Rd (w.alloc (.cells #[.slice q n' c, .int .i64 0] 61 (0, 0))) w.heap.size 0 61 := by
  refine ⟨q, n', c, 0, heap_alloc_new _ _, Nat.le_refl _, h2, by have := h.1; omega, h.2.1, fun i hi => ?_⟩
  obtain ⟨b, off, x, g1, g2, g3, g4⟩ := h.2.2 i (by omega)
  exact ⟨b, off, x, g1, g2, by rw [Below.cell ((Ext.refl w).alloc _).below (p := ⟨b, off + i, none⟩) g2]; exact g3, g4⟩

theorem opn (w : World) (q : Option Addr) (n c : Nat) (h : Bytes w q n c) : Calls Try.prog 46 #[.slice q n c] w (OpenR w) := by
  have hn := h.1
  have hcap : c ≤ 9223372036854775807 := h.2.1
  by_cases hl : 2000 < n
  · have hl2 : (2000 : Int) < n := by omega
    have H := Lib.hid h; clear h
    go_enter Try.func46, Try.ntmps46
    go_wp2_with fail
    go_ret
    exact ⟨rfl, ((Ext.refl w).alloc _).below, H.out.rd (by omega) (by omega)⟩
  · have hl2 : ¬ (2000 : Int) < n := by omega
    have H := Lib.hid h; clear h
    go_enter Try.func46, Try.ntmps46
    go_wp2_with fail
    go_ret
    exact ⟨rfl, ((Ext.refl w).alloc _).below, H.out.rd (by omega) (by omega)⟩
end Go.Proofs.Ytkkijdlgmlffoaa
