/- A region that draws its order, whose calls and loads are quiet, with one new block that may come at any time among them (a struct literal whose fields are calls), and a tail (its store): walked once. -/
import Derived.Test.YtoomjionojfjgaaDoorQTail
namespace Go.Proofs.YtoomjionojfjgaaDoor
open Go.RowKit

section
variable {P : Program} {ops : Array Oper} {md : Region.Mode} {W : Bool → World} {k : Nat}

/-- what operation i leaves in its temporary: operation k brings the block, all others are quiet with it and without -/
def yieldsB (P : Program) (ops : Array Oper) (W : Bool → World) (k i : Nat) (o : Oper) (v : Value) (a : Act) : Prop :=
  if i = k then Region.wanted o (yielded ops a.tmps) = true ∧ ∀ n, (execOp a.eval o).run P ((W false).drewN n) = .ok (.value v) ((W true).drewN n)
  else (Region.wanted o (yielded ops a.tmps) = true ∧ ∀ f n, o.quietAt P a (fun w' => ∃ m, w' = (W f).drewN m) ((W f).drewN n) v) ∨ (Region.wanted o (yielded ops a.tmps) = false ∧ v = undef)
theorem yieldsB.same {i : Nat} {o : Oper} {v : Value} {a a' : Act} (hy : yieldsB P ops W k i o v a) (he : execOp a'.eval o = execOp a.eval o)
    (hw : Region.wanted o (yielded ops a'.tmps) = Region.wanted o (yielded ops a.tmps)) : yieldsB P ops W k i o v a' := by
  unfold yieldsB Oper.quietAt at *
  rw [he, hw]
  exact hy
def bOp (P : Program) (ops : Array Oper) (W : Bool → World) (k i : Nat) (K : Act → Prop) (a : Act) : Prop :=
  match ops[i]? with
  | none => K a
  | some o => ∃ v, yieldsB P ops W k i o v a ∧ K (a.put o.dst v)
theorem bOp_mono {i : Nat} {a : Act} {K K' : Act → Prop} (h : ∀ a, K a → K' a) (hh : bOp P ops W k i K a) : bOp P ops W k i K' a := by
  unfold bOp at *
  split
  · exact h _ (by simpa [*] using hh)
  · rename_i o ho
    simp only [ho] at hh
    obtain ⟨v, h1, h2⟩ := hh
    exact ⟨v, h1, h _ h2⟩
theorem wpOp_of_bOp {i n : Nat} {f : Bool} {a : Act} {K : Act → Prop} {K' : Act → World → Prop} {Q' : Exit → Act → World → Prop} {o0 : Oper} (h0 : ops[i]? = some o0) (hf : i = k → f = false)
    (h : ∀ a' m, K a' → K' a' ((W (f || decide (i = k))).drewN m)) (hh : bOp P ops W k i K a) : wpOp P ops Q' i K' a ((W f).drewN n) := by
  unfold bOp at hh
  unfold wpOp
  split
  · rename_i ho
    rw [h0] at ho; cases ho
  · rename_i o ho
    simp only [ho] at hh
    obtain ⟨v, hy, hK⟩ := hh
    unfold yieldsB at hy
    by_cases e : i = k
    · rw [if_pos e] at hy
      obtain ⟨hw, hr⟩ := hy
      rw [hf e] at h ⊢
      simp only [hw, if_true]
      refine .inl ?_
      unfold Oper.wp
      rw [hr n]
      have := h _ n hK
      simpa [e, Oper.upon] using this
    · rw [if_neg e] at hy
      have he : (f || decide (i = k)) = f := by simp [e]
      rw [he] at h
      rcases hy with ⟨hw, hq⟩ | ⟨hw, rfl⟩
      · simp only [hw, if_true]
        refine .inl ?_
        have h3 := hq f n
        unfold Oper.quietAt at h3
        unfold Oper.wp
        generalize (execOp a.eval o).run P ((W f).drewN n) = r at *
        cases r with
        | ok nx w' =>
          cases nx <;> simp only [Oper.quietUpon] at h3 <;> simp only [Oper.upon]
          case value u =>
            obtain ⟨e1, e2⟩ := h3
            rw [e1, e2]
            exact h _ n hK
          case skip =>
            obtain ⟨e1, e2⟩ := h3
            rw [e1, ← e2]
            exact h _ n hK
          case enter fn args =>
            obtain ⟨e1, hc⟩ := h3
            rw [e1]
            exact hc.mono fun e w'' ⟨he, m, hw''⟩ => by subst he; subst hw''; exact h _ m hK
        | halt x w' => simp only [Oper.quietUpon] at h3
      · simp only [hw]
        exact h _ n hK
theorem bOp_put {i j : Nat} {oi oj : Oper} {v : Value} (hj : ops[j]? = some oj) (hap : oi.apart ops oj = true) (hsi : ∀ cs b, oi.op ≠ .select cs b) (hsj : ∀ cs b, oj.op ≠ .select cs b) {K : Act → Prop} {a : Act}
    (hy : yieldsB P ops W k i oi v a) (h : bOp P ops W k j K (a.put oi.dst v)) : bOp P ops W k j (fun a' => yieldsB P ops W k i oi v a' ∧ K (a'.put oi.dst v)) a := by
  obtain ⟨h1, h2, h3⟩ := Oper.apart_spec hap
  unfold bOp at *
  simp only [hj] at *
  obtain ⟨u, hu, hn⟩ := h
  refine ⟨u, hu.same (execOp_put oj hsj a oi.dst v h1).symm (wanted_put oj a oi.dst v h1).symm, hy.same (execOp_put oi hsi a oj.dst u h3) (wanted_put oi a oj.dst u h3), ?_⟩
  rw [← Act.put_comm a v u h2]; exact hn
def headB (P : Program) (md : Region.Mode) (ops : Array Oper) (W : Bool → World) (k n : Nat) (L : Array Bool → Act → Prop) : Nat → Array Bool → Act → Prop
  | 0, listed, a => L listed a
  | f + 1, listed, a => Region.ready md ops listed ≠ [] ∧ ∀ i ∈ Region.ready md ops listed, i < n ∧ bOp P ops W k i (headB P md ops W k n L f (listed.setIfInBounds i true)) a
theorem any_of_headB {n g : Nat} {L : Array Bool → Act → Prop} {Q' : Exit → Act → World → Prop} (hL : ∀ listed a m, L listed a → wpAny P md ops Q' g listed a ((W (listed.getD k false)).drewN m)) :
    ∀ (f : Nat) (listed : Array Bool) (a : Act) (m : Nat), listed.size = ops.size → headB P md ops W k n L f listed a → wpAny P md ops Q' (f + g) listed a ((W (listed.getD k false)).drewN m) := by
  intro f
  induction f with
  | zero => intro listed a m _ h; rw [Nat.zero_add]; exact hL _ _ _ h
  | succ f ih =>
    intro listed a m hsz h
    rw [show f + 1 + g = (f + g) + 1 by omega]
    refine ⟨fun h0 => absurd h0 h.1, fun i hi => ?_⟩
    obtain ⟨hun, o0, h0, _⟩ := mem_ready.1 hi
    have hlt : i < listed.size := by
      rcases Nat.lt_or_ge i listed.size with h' | h'
      · exact h'
      · simp [Array.getElem?_eq_none h'] at hun
    refine wpOp_of_bOp (k := k) h0 (fun e => by rw [← e]; exact getD_both hun) (fun a' m' h' => ?_) (h.2 i hi).2
    have := ih (listed.setIfInBounds i true) a' m' (by simpa using hsz) h'
    have e2 : (listed.setIfInBounds i true).getD k false = (listed.getD k false || decide (i = k)) := by
      by_cases e : i = k
      · subst e; simp [hlt]
      · rw [getD_set_ne false e]; simp [e]
    rw [e2] at this
    exact this
theorem headB_first {n i : Nat} {oi : Oper} {v : Value} {L : Array Bool → Act → Prop} (hi : ops[i]? = some oi) (hsel : ∀ (j : Nat) (o : Oper) cs b, ops[j]? = some o → o.op ≠ .select cs b)
    (hs : Region.sinkB md ops n = true) (hc : Region.chainB md ops n = true) (hn : n < ops.size) (hin : i < n) (hdone : ∀ listed a, L listed a → ∀ j ∈ Region.ready md ops listed, n ≤ j) :
    ∀ (f : Nat) (listed : Array Bool) (a : Act), HeadInv md ops n listed →
      (∀ j oj, ops[j]? = some oj → j ≠ i → listed.getD j true = false → (∀ e ∈ oj.after, Region.binds md e = true → e.on ≠ i) → oi.apart ops oj = true) →
      i ∈ Region.ready md ops listed → yieldsB P ops W k i oi v a →
      headB P md ops W k n L f (listed.setIfInBounds i true) (a.put oi.dst v) → headB P md ops W k n L (f + 1) listed a := by
  have own : ∀ {K : Act → Prop} {a : Act}, yieldsB P ops W k i oi v a → K (a.put oi.dst v) → bOp P ops W k i K a := fun hy hK => by
    unfold bOp; simp only [hi]; exact ⟨v, hy, hK⟩
  intro f
  induction f with
  | zero =>
    intro listed a inv _ hr hy H
    have hun := (mem_ready.1 hr).1
    refine ⟨fun h => (by rw [h] at hr; cases hr), fun j hj => ?_⟩
    have hjn : j < n := by
      rcases Nat.lt_or_ge j n with h | h
      · exact h
      · exact absurd hj (tail_waits hs hc hn inv _ i rfl hin hun j h)
    by_cases hji : j = i
    · subst hji; exact ⟨hjn, own hy H⟩
    · have := hdone _ _ H j (ready_mono hj hji)
      omega
  | succ f ih =>
    intro listed a inv hfree hr hy H
    have hun := (mem_ready.1 hr).1
    refine ⟨fun h => (by rw [h] at hr; cases hr), fun j hj => ?_⟩
    have hjn : j < n := by
      rcases Nat.lt_or_ge j n with h | h
      · exact h
      · exact absurd hj (tail_waits hs hc hn inv _ i rfl hin hun j h)
    by_cases hji : j = i
    · subst hji; exact ⟨hjn, own hy H⟩
    refine ⟨hjn, ?_⟩
    have h1 := (H.2 j (ready_mono hj hji)).2
    obtain ⟨hjun, oj, hoj, hall⟩ := mem_ready.1 hj
    have hnot : ∀ e ∈ oj.after, Region.binds md e = true → e.on ≠ i := fun e he hb heq => by
      have h1 := hall e he hb
      rw [heq, getD_both hun] at h1
      cases h1
    have h2 := bOp_put hoj (hfree j oj hoj hji hjun hnot) (fun cs b => hsel i oi cs b hi) (fun cs b => hsel j oj cs b hoj) hy h1
    have hfree' : ∀ k ok, ops[k]? = some ok → k ≠ i → (listed.setIfInBounds j true).getD k true = false →
        (∀ e ∈ ok.after, Region.binds md e = true → e.on ≠ i) → oi.apart ops ok = true := fun k ok hk hki hun hno => by
      refine hfree k ok hk hki ?_ hno
      by_cases hjk : j = k
      · subst hjk; exact hjun
      · rw [getD_set_ne true hjk] at hun; exact hun
    refine bOp_mono (fun a' h3 => ih (listed.setIfInBounds j true) a' (inv.set hj hjn) hfree' (ready_mono hr (Ne.symm hji)) h3.1 ?_) h2
    rw [Array.setIfInBounds_comm _ _ hji]
    exact h3.2
/-- the walk in the order of the text -/
def wpBox (P : Program) (ops : Array Oper) (W : Bool → World) (k : Nat) (Q : Act → Prop) : Nat → List Oper → Act → Prop
  | _, [], a => Q a
  | i, o :: rest, a => ∃ v, yieldsB P ops W k i o v a ∧ wpBox P ops W k Q (i + 1) rest (a.put o.dst v)
theorem headB_lex {n g : Nat} {Lq : Act → Prop} (hsel : Region.noSelect ops = true) (hs : Region.sinkB md ops n = true) (hc : Region.chainB md ops n = true) (hn : n < ops.size) (hkn : k < n) :
    ∀ (l : List Oper) (i : Nat) (listed : Array Bool) (a : Act), (∀ j, j < l.length → l[j]? = ops[i + j]?) → i + l.length = n → HeadInv md ops n listed → (k < i → listed.getD k false = true) →
    Region.lexHead md ops g l.length i listed = true → wpBox P ops W k Lq i l a →
    headB P md ops W k n (fun listed' a' => (Region.seqB md ops g n listed' = true ∧ listed'.getD k false = true) ∧ Lq a') l.length listed a := by
  intro l
  induction l with
  | nil =>
    intro i listed a _ hk _ hfl hB h
    have : i = n := by simpa using hk
    subst this
    exact ⟨⟨by simpa [Region.lexHead] using hB, hfl hkn⟩, h⟩
  | cons o l ih =>
    intro i listed a hl hk inv hfl hB h
    have h0 : ops[i]? = some o := by simpa using (hl 0 (by simp)).symm
    simp only [List.length_cons, Region.lexHead, Bool.and_eq_true] at hB
    obtain ⟨⟨hr, hf⟩, hB'⟩ := hB
    have hin : i < n := by simp only [List.length_cons] at hk; omega
    have hr' : i ∈ Region.ready md ops listed := by simpa using hr
    obtain ⟨v, hy, hK⟩ := h
    exact headB_first h0 (Region.noSelect_spec hsel) hs hc hn hin (fun listed' a' hL => seqB_ready hL.1.1) l.length listed a inv (Region.free_spec h0 hf) hr' hy
      (ih (i + 1) _ _ (fun j hj => by have := hl (j + 1) (by simp; omega); simpa [Nat.add_assoc, Nat.add_comm 1 j] using this) (by simp only [List.length_cons] at hk; omega) (inv.set hr' hin) (fun hki => by
        by_cases e : i = k
        · subst e
          have : i < listed.size := by rw [inv.size]; omega
          simp [this]
        · exact getD_set_true (hfl (by omega))) hB' hK)
theorem wp_region_box {id : Nat} {Q : Exit → Act → World → Prop} {a : Act} {w : World} {l : List Oper} (n k : Nat) (W : Bool → World) (hW : W false = w) (hkn : k < n) (hm : P.follows .mixedOrders = true) (hB : Region.lexTailB .any l.toArray n = true)
    (h : wpBox P l.toArray W k (fun a' => ∀ m, wpList P l.toArray Q (l.drop n) a' ((W true).drewN m)) 0 (l.take n) a) : (Code.region id l.toArray true).wp P Q a w := by
  subst hW
  simp only [Region.lexTailB, Bool.and_eq_true, decide_eq_true_eq] at hB
  obtain ⟨⟨⟨⟨hsel, hn⟩, hs⟩, hc⟩, hlex⟩ := hB
  have hn' : n < l.length := by simpa using hn
  have htl : (l.take n).length = n := by simp; omega
  have hdl : (l.drop n).length = l.toArray.size - n := by simp
  have inv0 : HeadInv .any l.toArray n (Array.replicate l.toArray.size false) :=
    ⟨by simp, fun j oj _ hl => (by rw [getD_replicate_false] at hl; cases hl), fun t _ ht => getD_in (by simpa using ht) (getD_replicate_false _ _)⟩
  have H := headB_lex (W := W) (k := k) (md := .any) (g := l.toArray.size - n) hsel hs hc hn hkn (l.take n) 0 _ a (fun j hj => by
    have hj' : j < n := by rw [htl] at hj; exact hj
    simp [hj']) (by simpa using htl) inv0 (fun h => absurd h (Nat.not_lt_zero _)) (by rw [htl]; exact hlex) h
  refine wp_region_any hm ?_
  have := any_of_headB (Q' := Q) (g := l.toArray.size - n) (fun listed a' m hL => by
    have := wpAny_of_seq (md := .any) (Q' := Q) (l.drop n) n listed a' ((W true).drewN m) (fun j => by simp [List.getElem?_drop]) (by rw [hdl]; exact hL.1.1) (hL.2 m)
    rw [hL.1.2]
    rwa [hdl] at this) _ _ _ 1 (by simp) H
  rw [htl, show n + (l.toArray.size - n) = l.toArray.size by omega, getD_replicate_false] at this
  exact this
theorem wpBox_nil {Q : Act → Prop} {a : Act} {i : Nat} (h : Q a) : wpBox P ops W k Q i [] a := h
/-- one step of it: any operation but k -/
theorem wpBox_step {Q : Act → Prop} {a : Act} {i : Nat} {o : Oper} {rest : List Oper} (hik : i ≠ k) (hw : Region.wanted o (yielded ops a.tmps) = true)
    (h : ∀ K : Act → Prop, (∀ a, wpBox P ops W k Q (i + 1) rest a → K a) → ∃ v, (∀ f n, o.quietAt P a (fun w' => ∃ m, w' = (W f).drewN m) ((W f).drewN n) v) ∧ K (a.put o.dst v)) : wpBox P ops W k Q i (o :: rest) a := by
  obtain ⟨v, h1, h2⟩ := h _ (fun _ h => h)
  exact ⟨v, by unfold yieldsB; rw [if_neg hik]; exact .inl ⟨hw, h1⟩, h2⟩
theorem wpBox_new {Q : Act → Prop} {a : Act} {i : Nat} {o : Oper} {rest : List Oper} {v : Value} (hik : i = k) (hw : Region.wanted o (yielded ops a.tmps) = true)
    (hr : ∀ n, (execOp a.eval o).run P ((W false).drewN n) = .ok (.value v) ((W true).drewN n)) (h : wpBox P ops W k Q (i + 1) rest (a.put o.dst v)) : wpBox P ops W k Q i (o :: rest) a :=
  ⟨v, by unfold yieldsB; rw [if_pos hik]; exact ⟨hw, hr⟩, h⟩
end
end Go.Proofs.YtoomjionojfjgaaDoor
