/- SplitString: both sides hand back the same parts; the law. -/
import Derived.Test.YtbgfdhghhaoabaaDoorSplitS
import Derived.Test.YtbgfdhghhaoabaaDoorHeldT
import Derived.Test.YtbgfdhghhaoabaaDoorFrame
import Derived.Test.YtbgfdhghhaoabaaDoorShelf
import Derived.Test.YtbgfdhghhaoabaaDoorShelfB
namespace Go.Proofs.YtbgfdhghhaoabaaDoor
open Go.RowKit

/-- what the kit's contract of strings.Split asks of the library's own variable -/
def MaxCell (w : World) : Prop := ∃ m, w.cell? ⟨0, 0, none⟩ = some (.int .i64 m)
theorem maxCell_of {w : World} (h : w.ShapedOpen Tryd.prog) : MaxCell w := Tryd.laysM146.s1_3 w h
theorem MaxCell.below {w w' : World} (h : MaxCell w) (hb : Below w.heap.size w w') : MaxCell w' := by
  obtain ⟨m, hm⟩ := h
  exact ⟨m, (hb.cell (p := ⟨0, 0, none⟩) (World.block_lt_of_cell? w _ hm)).trans hm⟩
def cutOk (s sep : ByteArray) : Bool := decide (s.size ≤ 4000) && decide (sep.size = 1)
def cutR (s sep : ByteArray) : List ByteArray := if h : cutOk s sep = true then splitF s (sep[0]'(by simp [cutOk] at h; omega)) else []
theorem cutR_no {s sep : ByteArray} (h : cutOk s sep = false) : cutR s sep = [] := by rw [cutR, dif_neg (by simp [h])]
theorem cutR_yes {s sep : ByteArray} (h : cutOk s sep = true) (h2 : 0 < sep.size) : cutR s sep = splitF s sep[0] := by rw [cutR, dif_pos h]
theorem cutR_le (s sep : ByteArray) : (cutR s sep).length ≤ 4001 := by
  unfold cutR
  split
  · rename_i h
    have := splitF_le s (sep[0]'(by simp [cutOk] at h; omega))
    simp [cutOk] at h; omega
  · simp
theorem sep_one {sep : ByteArray} (h : sep.size = 1) : sep = ⟨#[sep[0]]⟩ := by
  obtain ⟨⟨l⟩⟩ := sep
  match l, h with
  | [x], _ => rfl
set_option maxHeartbeats 800000 in
set_option maxRecDepth 100000 in
theorem specSplit_any (s sep : ByteArray) (w : World) (hm : s.size ≤ 1048576) (_ : sep.size ≤ 1048576) : Calls Tryd.prog 12 #[.string s, .string sep] w fun e w' => ∃ ad cp, e = .returned (.tuple #[.slice ad (cutR s sep).length cp, .bool (cutOk s sep)]) ∧
    w'.ownsRow w.heap.size 9 1 (.slice ad (cutR s sep).length cp) (cutR s sep).length (strs (cutR s sep)) ∧ Below w.heap.size w w' := by
  have hown0 := Lib.hid (RowIs.owns (RowIs.new w 9 ([] : List Value)) (n := 0) (sz := 1) rfl (by unfold maxLen; omega) (Nat.le_refl _))
  have hb0 := Lib.hid (Go.Joins.below_alloc1 w (.cells ([] : List Value).toArray 9))
  by_cases h1 : sep.size = 1
  · by_cases h2 : 4000 < s.size
    · have e : cutOk s sep = false := by simp [cutOk]; omega
      rw [cutR_no e, e]
      clear e
      go_enter Tryd.func12, Tryd.ntmps12
      go_wp2_with fail
      go_ret2
      exact ⟨_, _, rfl, by simpa [strs] using hown0.out, hb0.out⟩
    · have e : cutOk s sep = true := by simp [cutOk]; omega
      have hp : 0 < sep.size := by omega
      rw [cutR_yes e hp, e]
      have H1 := Lib.hid (l1Split_any s sep[0] w hm)
      have hb := sep[0].toNat_lt
      clear e hown0 hb0
      generalize splitF s sep[0] = r at *
      go_enter Tryd.func12, Tryd.ntmps12
      go_wp2_with (go_at_call 39; refine H1.out.mono ?_; rintro e w' ⟨ad, cp, rfl, hown, hbel⟩)
      go_ret2
      exact ⟨_, _, rfl, hown, hbel⟩
  · have e : cutOk s sep = false := by simp [cutOk, h1]
    rw [cutR_no e, e]
    clear e
    go_enter Tryd.func12, Tryd.ntmps12
    go_wp2_with fail
    go_ret2
    exact ⟨_, _, rfl, by simpa [strs] using hown0.out, hb0.out⟩
set_option maxHeartbeats 800000 in
set_option maxRecDepth 100000 in
theorem implSplit_any (s sep : ByteArray) (w : World) (hm : s.size ≤ 1048576) (_ : sep.size ≤ 1048576) (hmx : MaxCell w) : Calls Tryd.prog 13 #[.string s, .string sep] w fun e w' => ∃ ad cp, e = .returned (.tuple #[.slice ad (cutR s sep).length cp, .bool (cutOk s sep)]) ∧
    w'.ownsRow w.heap.size 9 1 (.slice ad (cutR s sep).length cp) (cutR s sep).length (strs (cutR s sep)) ∧ Below w.heap.size w w' := by
  have hnil : w.ownsRow w.heap.size 9 1 (.slice none 0 0) 0 (strs []) := World.ownsRow_nil _ _ _ _
  by_cases h2 : 4000 < s.size
  · have e : cutOk s sep = false := by simp [cutOk]; omega
    rw [cutR_no e, e]
    clear e hmx
    go_enter Tryd.func13, Tryd.ntmps13
    go_wp2_with fail
    go_ret2
    exact ⟨_, _, rfl, hnil, Below.refl _ _⟩
  by_cases h1 : sep.size = 1
  · have e : cutOk s sep = true := by simp [cutOk]; omega
    have hp : 0 < sep.size := by omega
    rw [cutR_yes e hp, e]
    obtain ⟨mx, hmx⟩ := hmx
    have hS := Tryd.strings_Split s sep mx w (by omega) hmx (by omega)
    have e1 : Lib.splitB sep 0 (Lib.countB s sep) s = splitF s sep[0] := by
      rw [splitF, ← sep_one h1]
    have e2 : (Lib.countB s sep) + 1 = (splitF s sep[0]).length := by
      rw [splitF_len, ← sep_one h1]
    have hle := splitF_le s sep[0]
    rw [e1, e2] at hS
    have H1 := Lib.hid hS
    have HO : Hid (∀ r : List ByteArray, r.length ≤ 4001 → (w.alloc (.cells (r.map Value.string).toArray 9)).ownsRow w.heap.size 9 1 (.slice (some ⟨w.heap.size, 0, none⟩) r.length r.length) r.length (strs r)) :=
      Lib.hid (fun r hr => RowIs.owns (RowIs.new w 9 (strs r)) (n := r.length) (sz := 1) (by simp [strs]) (by unfold maxLen; omega) (Nat.le_refl _))
    have HBB := Lib.hid (fun r : List ByteArray => Go.Joins.below_alloc1 w (.cells (r.map Value.string).toArray 9))
    have hle2 : (splitF s sep[0]).length ≤ 4001 := by omega
    clear e hS e1 e2 hmx hnil hle
    generalize splitF s sep[0] = r at *
    go_enter Tryd.func13, Tryd.ntmps13
    go_wp2_with (go_at_call 40; refine H1.out.mono ?_; rintro e w' ⟨rfl, rfl⟩)
    go_ret2
    exact ⟨_, _, rfl, HO.out r hle2, HBB.out r⟩
  · have e : cutOk s sep = false := by simp [cutOk, h1]
    rw [cutR_no e, e]
    have hne : ((sep.size : Int) != 1) = true := by rw [bne_iff_ne]; omega
    clear e hmx
    go_enter Tryd.func13, Tryd.ntmps13
    go_wp2_with fail
    go_ret2
    exact ⟨_, _, rfl, hnil, Below.refl _ _⟩
end Go.Proofs.YtbgfdhghhaoabaaDoor
