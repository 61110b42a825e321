import Derived.Test.YtkkijdlgmlffoaaRows
import Derived.Test.YtkkijdlgmlffoaaTyp
namespace Go.Proofs.Ytkkijdlgmlffoaa
open Go.RowKit Go.Proofs.Grad

mutual
def szT : Ty → Int → Int
  | .mk _ l, left => if left < l.length then -1 else szL l (left - l.length)
def szL : List Ty → Int → Int
  | [], left => left
  | t :: l, left => if szT t left < 0 then -1 else szL l (szT t left)
end
def szS (l : List Ty) (left : Int) : Int := if left < l.length then -1 else szL l (left - l.length)
theorem szT_eq (t : Ty) (left : Int) : szT t left = szS t.kids left := by cases t; rw [szT]; rfl
mutual
theorem szT_le : ∀ (t : Ty) (left : Int), 0 ≤ left → szT t left = -1 ∨ (0 ≤ szT t left ∧ szT t left + (t.size - 1 : Int) = left)
  | .mk k l, left, h => by
    rw [szT]
    split
    · exact .inl rfl
    · have := szL_le l (left - l.length) (by omega)
      rw [Ty.size]
      omega
theorem szL_le : ∀ (l : List Ty) (left : Int), 0 ≤ left → szL l left = -1 ∨ (0 ≤ szL l left ∧ szL l left + Ty.sizes l = left + l.length)
  | [], left, h => by simp [szL, Ty.sizes, h]
  | t :: l, left, h => by
    rw [szL, Ty.sizes]
    have h1 := szT_le t left h
    split
    · exact .inl rfl
    · have h2 := szL_le l (szT t left) (by omega)
      simp only [List.length_cons]
      omega
end
theorem szS_le (l : List Ty) (left : Int) (h : 0 ≤ left) : szS l left = -1 ∨ (0 ≤ szS l left ∧ szS l left + Ty.sizes l = left) := by
  have := szL_le l (left - l.length)
  unfold szS
  split
  · exact .inl rfl
  · omega
theorem szL_drop {l : List Ty} {k : Nat} (h : k < l.length) (x : Int) : szL (l.drop k) x = if szS l[k].kids x < 0 then -1 else szL (l.drop (k + 1)) (szS l[k].kids x) := by
  rw [List.drop_eq_getElem_cons h, szL, szT_eq]

def SzTS (n : Nat) : Prop := ∀ (l : List Ty) (left : Int) (w : World) L p cap, Ty.sizes l < n → 0 ≤ left → left ≤ 1048576 → TysRep L w l p cap →
    Calls Try.prog 36 #[.slice p l.length cap, .int .i64 left] w fun e w' => e = .returned (.int .i64 (szS l left)) ∧ Below w.heap.size w w'

theorem szT_aux (n : Nat) (ih : SzTS n) (k : Int) (l : List Ty) (left : Int) (w : World) (L : List Nat) (p : Option Addr) (cap : Nat) (hn : Ty.sizes l < n) (h0 : 0 ≤ left) (h1 : left ≤ 1048576) (hr : TysRep L w l p cap) :
    Calls Try.prog 12 #[.agg #[.int .i64 k, .slice p l.length cap], .int .i64 left] w fun e w' => e = .returned (.int .i64 (szS l left)) ∧ Below w.heap.size w w' := by
  have hb2 := szS_le l left h0
  go_enter Try.func12, Try.ntmps12
  go_wp2_with (go_at_call 36; refine (ih l left _ L p cap hn h0 h1 (hr.keep (Keep.alloc _ _ _))).mono ?_; rintro e w1 ⟨rfl, hb⟩)
  all_goals go_ret
  · exact ⟨by rw [show szS l left = -1 from by omega]; rfl, ((Below.refl _ _).alloc (Nat.le_refl _) _).trans (hb.mono (by simp))⟩
  · exact ⟨rfl, ((Below.refl _ _).alloc (Nat.le_refl _) _).trans (hb.mono (by simp))⟩

theorem szTS_step (n : Nat) (ih : SzTS n) : SzTS (n + 1) := by
  intro l left w L p cap hn h0 h1 hr
  have hlen := hr.len
  have hcap : cap ≤ 9223372036854775807 := hlen.2
  have hl := hlen.1
  clear hlen
  go_enter Try.func36, Try.ntmps36
  by_cases hlt : left < l.length
  · have e : szS l left = -1 := by rw [szS]; simp [hlt]
    go_wp2_with fail
    all_goals go_ret
    exact ⟨by rw [e]; rfl, Below.refl _ _⟩
  · have e : Hid (szS l left = szL (l.drop 0) (left - l.length)) := by rw [szS]; simp [hlt, Hid]
    go_wp2_with fail
    go_loopw [1, 5] (fun lv i wr => ∃ (k : Nat) (x : Int), k ≤ l.length ∧ i = .int .i64 k ∧ lv = .int .i64 x ∧ 0 ≤ x ∧ x ≤ 1048576 ∧ Hid (szS l left = szL (l.drop k) x) ∧ Below w.heap.size w wr) (fun _ i _ => l.length - (intOf i).toNat)
    case atStart => exact ⟨0, _, Nat.zero_le _, rfl, rfl, by omega, by omega, e, Below.refl _ _⟩
    case round =>
      obtain ⟨k, x, hk, rfl, rfl, hx0, hx1, hxe, hbw⟩ := hrel
      by_cases hkl : k < l.length
      · obtain ⟨b, off, rfl, hbL, hc0, q, cap', hc1, hr'⟩ := (hr.keep (Keep.of_below hbw)).at hkl
        have hsz := Ty.kid_lt hkl
        have hb2 := szS_le l[k].kids x hx0
        have hd := szL_drop hkl x
        generalize hy : szS l[k].kids x = y at *
        generalize hE : l[k] = t at *
        have H := Lib.hid hy; clear hy
        have HD : Hid (szL (l.drop k) x = if y < 0 then -1 else szL (l.drop (k + 1)) y) := hd; clear hd
        go_wp2_with (go_at_call 12; refine (szT_aux n ih t.kind t.kids x _ L q cap' (by omega) hx0 hx1 hr').mono ?_; rintro e w1 ⟨rfl, hb⟩; rw [H.out])
        · rename_i hneg
          go_ret
          exact ⟨by rw [hxe.out, HD.out, if_pos (by assumption)]; rfl, hbw.trans (hb.mono hbw.size)⟩
        · go_roundw
          case rel => exact ⟨k + 1, y, by omega, by go_num, rfl, by omega, by omega, by rw [Hid, hxe.out, HD.out, if_neg (by omega)], hbw.trans (hb.mono hbw.size)⟩
          case measure => simp [intOf]; omega
      · have hkk : k = l.length := by omega
        go_wp2_with fail
        go_ret
        refine ⟨?_, hbw⟩
        rw [hxe.out, List.drop_eq_nil_of_le (by omega), szL]; rfl

theorem szTS (n : Nat) : SzTS n := by
  induction n with
  | zero => intro l left w L p cap hn; omega
  | succ n ih => exact szTS_step n ih

theorem sz (t : Ty) (left : Int) (w : World) (q c) (h0 : 0 ≤ left) (h1 : left ≤ 1048576) (hr : TysRep [] w t.kids q c) :
    Calls Try.prog 12 #[.agg #[.int .i64 t.kind, .slice q t.kids.length c], .int .i64 left] w (RetI w (szS t.kids left)) :=
  szT_aux _ (szTS (Ty.sizes t.kids + 1)) t.kind t.kids left w [] q c (by omega) h0 h1 hr
end Go.Proofs.Ytkkijdlgmlffoaa
