/- LeastOver: the reference's side. -/
import Derived.Test.YtieopadbbciciaaLeastP
import Derived.Test.YtieopadbbciciaaStampG
import Derived.Test.YtieopadbbciciaaAppK
import Derived.Deep.RegionHeld3
namespace Go.Proofs.Ytieopadbbciciaa
open Go.RowKit

theorem lexB_skip (p a b : List Int) : lexB (p ++ a) (p ++ b) = lexB a b := by
  induction p with
  | nil => rfl
  | cons x p ih => simp [lexB, ih]
theorem lexB_at {f g : List Int} {k : Nat} (h : f.take k = g.take k) (hf : k < f.length) (hg : k < g.length) (hne : f[k] ≠ g[k]) : lexB f g = decide (f[k] < g[k]) := by
  conv => lhs; rw [← List.take_append_drop k f, ← List.take_append_drop k g, h]
  rw [lexB_skip, List.drop_eq_getElem_cons hf, List.drop_eq_getElem_cons hg]
  simp [lexB, hne]
theorem lexB_self (f : List Int) : lexB f f = false := by
  by_cases e : lexB f f = true
  · exact lexB_asymm _ _ e
  · simpa using e
theorem small_in2 {z : Int} (h1 : -1000000 ≤ z) (h2 : z ≤ 1000000) : IntKind.i64.wrap z = z := IntWalk.i64_in _ (by omega)
theorem step_append_own1 {P : Program} {w : World} {ops : Array Oper} {o : Oper} {a : Act} {K : Act → World → Prop} {Q : Exit → Act → World → Prop} {E : Prop} (hgd : o.guard = none) (s x : Operand) (t : TypeId)
    (ho : o.op = .call { callee := .builtin .append, args := #[s, x], argTypes := #[t, t] })
    (base : Nat) (e : TypeId) (i : TypeInfo) (z : Value) (size bytes : Nat) (ht : P.underlying t = some (.slice e)) (hi : P.info? e = some i) (hz : i.zero = some z)
    (hsize : i.size = size) (hby : i.bytes = bytes) (hzs : z.cells.size = size) (hsz : 0 < size) (v : Value) (n : Nat) (xs : List Value) (hs : a.eval s = v) (hown : w.ownsRow base e size v n xs)
    (ad : Addr) (m c : Nat) (news : List Value) (hx : a.eval x = .slice (some ad) m c) (hl : news.length = m * size) (hnews : ∀ j u, news[j]? = some u → w.cell? (ad.add j) = some u) (h1 : ∀ u ∈ news, u.oneCell' = true)
    (h63 : n + m ≤ maxLen) (hbytes : (n + m) * bytes ≤ 140737488355328) (hbase : base ≤ w.heap.size)
    (h : ∀ v' w', w'.ownsRow base e size v' (n + m) (xs ++ news) → w.grownBy w' v.ownBlock → K (a.put o.dst v') w') :
    if Region.wanted o (yielded ops a.tmps) = true then Oper.wp P o a w K Q else E := by
  have hw : Region.wanted o (yielded ops a.tmps) = true := by simp [Region.wanted, hgd]
  rw [if_pos hw]
  obtain ⟨v', w', hr, h2, h3, _⟩ := run_append_own (P := P) w base t o.type e i z size bytes ht hi hz hsize hby hzs hsz v n xs hown ad m c news hl hnews h1 h63 hbytes hbase
  unfold Oper.wp execOp
  simp only [ho, resolve, invoke, builtin, Sem.run_bind, Sem.run_pure, Result.andThen_ok, List.map_toArray, List.map_cons, List.map_nil, hs, hx, hr]
  exact h v' w' h2 h3
theorem own_newI (u : World) (B : Nat) (h : B ≤ u.heap.size) : (u.alloc (.cells #[] 3)).ownsRow B 3 1 (.slice (some ⟨u.heap.size, 0, none⟩) 0 0) 0 [] := RowIs.owns (RowIs.new u 3 ([] : List Value)) (n := 0) (sz := 1) rfl (by unfold maxLen; omega) h
set_option maxHeartbeats 1000000 in
theorem l2Before_any (a b : Option Addr) (ca cb : Nat) (f g : List Int) (w : World) (hm : f.length ≤ 1048576) (hm2 : g.length ≤ 1048576) (hx : Reads w a (ints f)) (hy : Reads w b (ints g)) :
    Calls Try.prog 50 #[.slice a f.length ca, .slice b g.length cb] w fun e w' => e = .returned (.bool (befB f g)) ∧ Dr w w' := by
  have HX := Lib.hid hx
  have HY := Lib.hid hy
  clear hx hy
  by_cases hlen : f.length = g.length
  · have hl2 : (((f.length : Nat) : Int) != ((g.length : Nat) : Int)) = false := by simp [hlen]
    have HBE := Lib.hid (show befB f g = lexB f g by simp [befB, hlen])
    have hle : g.length ≤ f.length := by omega
    have hle2 : f.length ≤ g.length := by omega
    have HL := Lib.hid hlen
    rw [HBE.out]
    clear hlen
    go_enter Try.func50, Try.ntmps50
    go_wp2_with fail
    go_loopw [5] (fun i wr => ∃ k : Nat, k ≤ f.length ∧ i = .int .i64 k ∧ Hid (f.take k = g.take k) ∧ Dr w wr) (fun i _ => f.length - (intOf i).toNat)
    case atStart => exact ⟨0, Nat.zero_le _, rfl, by simp [Hid], Dr.refl _⟩
    case round =>
      obtain ⟨k, hk, rfl, ht, hdr⟩ := hrel
      by_cases hlt : k < f.length
      · have hlt2 : k < g.length := by omega
        rcases HX.out.dr hdr with h0 | ⟨b1, o1, rfl, hb1, hc1⟩
        · simp [ints] at h0; subst h0; simp at hlt
        rcases HY.out.dr hdr with h0 | ⟨b2, o2, rfl, hb2, hc2⟩
        · simp [ints] at h0; subst h0; simp at hlt2
        have hd1 := hc1 k _ (ints_get hlt)
        have hd2 := hc2 k _ (ints_get hlt2)
        have HDR := Lib.hid hdr
        clear hc1 hc2 hdr
        by_cases he : f[k] = g[k]
        · have ht2 := Lib.hid (take_eq_succ ht.out hlt hlt2 he)
          have hb : (f[k] != g[k]) = false := by simp [he]
          clear he
          go_wp2
          go_quiet (fail)
          go_wp2
          go_roundw
          case rel => exact ⟨k + 1, by omega, by go_num, ht2, HDR.out.trans (Dr.of _ _)⟩
          case measure => simp [intOf]; omega
        · have HE := Lib.hid (lexB_at ht.out hlt hlt2 he)
          have hb : (f[k] != g[k]) = true := by simp [he]
          obtain ⟨x, hx⟩ : ∃ x, x = f[k] := ⟨_, rfl⟩
          obtain ⟨y, hy⟩ : ∃ y, y = g[k] := ⟨_, rfl⟩
          rw [← hx] at hd1 hb HE
          rw [← hy] at hd2 hb HE
          clear he hx hy
          go_wp2
          go_quiet (fail)
          go_wp2
          have hd3 := (Dr.of wr 1)
          go_quiet (fail)
          go_wp2
          go_ret
          exact ⟨ret_bool (by rw [HE.out]), (HDR.out.trans (Dr.of _ _)).trans (Dr.of _ _)⟩
      · have hk2 : k = f.length := by omega
        have HE := Lib.hid (show f = g by
          have h1 := ht.out
          rw [hk2, List.take_length, HL.out, List.take_length] at h1; exact h1)
        clear hk2
        go_wp2
        go_ret
        exact ⟨ret_bool (by rw [HE.out, lexB_self]), hdr⟩
  · have hl2 : (((f.length : Nat) : Int) != ((g.length : Nat) : Int)) = true := by simp; omega
    have HBE := Lib.hid (show befB f g = decide (f.length < g.length) by simp [befB, hlen])
    rw [HBE.out]
    clear hlen
    go_enter Try.func50, Try.ntmps50
    go_wp2
    go_ret
    exact ⟨ret_bool (by simp), Dr.refl _⟩
theorem l1Own_any (bg bc : Nat) (f : List Int) (B : Nat) (w : World) (hl : f.length ≤ 1048576) (hr : w.ownsRow B 3 1 (.slice (some ⟨bg, 0, none⟩) f.length bc) f.length (ints f)) :
    Calls Try.prog 51 #[.slice (some ⟨bg, 0, none⟩) f.length bc] w fun e w' => ∃ va vc, e = .returned (.slice va f.length vc) ∧ w'.ownsRow w.heap.size 3 1 (.slice va f.length vc) f.length (ints f) ∧ Below w.heap.size w w' := by
  obtain ⟨i0, hi, hz0, hz1, hz2⟩ := info_parts info_int
  have HO := Lib.hid (own_newI w w.heap.size (Nat.le_refl _))
  have HBA := Lib.hid (Go.Joins.below_alloc1 w (.cells #[] 3))
  have HN : Hid (∀ j u, (ints f)[j]? = some u → (w.alloc (.cells #[] 3)).cell? ((⟨bg, 0, none⟩ : Addr).add j) = some u) := Lib.hid (fun j u hu => (own_below hr HBA.out).cells (g := bg) rfl j u hu)
  clear hr
  go_enter Try.func51, Try.ntmps51
  go_wp2_with (at_builtin; go_must (refine wpList_append_own _ rfl _ _ 24 rfl w.heap.size 3 i0 _ 1 8 Try.underlying24 hi hz0 hz1 hz2 rfl (by decide) _ _ _ rfl HO.out ⟨bg, 0, none⟩ f.length bc (ints f) rfl (by simp [ints]) HN.out (by simp [ints, Value.oneCell']) (by unfold maxLen; omega) (by omega) (by simp) ?_))
  intro v' w1 hown hgrow _
  have hb := HBA.out.grown hgrow (by simp) (fun q hq => by simp [Value.ownBlock] at hq; omega)
  have hown : w1.ownsRow w.heap.size 3 1 v' f.length (ints f) := by simpa using hown
  obtain ⟨va, vc, rfl⟩ : ∃ va vc, v' = .slice va f.length vc := by
    rcases hown.2 with ⟨h1, h0⟩ | ⟨g, c, cur, h1, _⟩
    · exact ⟨none, 0, by rw [h1, h0]⟩
    · exact ⟨_, _, h1⟩
  have HO2 := Lib.hid hown
  have HB2 := Lib.hid hb
  clear hown hgrow hb
  go_wp2_with fail
  go_ret
  exact ⟨va, vc, rfl, HO2.out, HB2.out⟩
def LeastOut (B : Nat) (w : World) (r : Fk) (e : Ending) (w' : World) : Prop := ∃ ra rc, e = .returned (.tuple #[.slice ra r.1.length rc, .int .i64 r.2]) ∧ w'.ownsRow B 3 1 (.slice ra r.1.length rc) r.1.length (ints r.1) ∧ Below w.heap.size w w'
theorem foldB_bd {L : List Fk} {st : Fk} (h1 : -1 ≤ st.2 ∧ st.2 ≤ 100000) (h2 : ∀ x ∈ L, 0 ≤ x.2 ∧ x.2 ≤ 100000) : -1 ≤ (foldB L st).2 ∧ (foldB L st).2 ≤ 100000 := by
  induction L generalizing st with
  | nil => exact h1
  | cons y L ih =>
    refine ih (st := updF st y) ?_ (fun x h => h2 x (List.mem_cons_of_mem _ h))
    unfold updF
    split
    · have := h2 y (List.mem_cons_self ..); omega
    · exact h1
theorem foldB_len {L : List Fk} {st : Fk} {m : Nat} (h1 : st.1.length ≤ m) (h2 : ∀ x ∈ L, x.1.length ≤ m) : (foldB L st).1.length ≤ m := by
  induction L generalizing st with
  | nil => exact h1
  | cons y L ih =>
    refine ih (st := updF st y) ?_ (fun x h => h2 x (List.mem_cons_of_mem _ h))
    unfold updF
    split
    · exact h2 y (List.mem_cons_self ..)
    · exact h1
theorem lv_len (zs : List StampT) (z : Bool) (rate : Int) : ∀ (n : Nat) (f : List Int) (i : Nat) (val : Int), ∀ x ∈ lv zs z rate n f i val, x.1.length ≤ f.length + n := by
  intro n
  induction n with
  | zero =>
    intro f i val x hx
    simp only [lv] at hx
    split at hx
    · rw [List.mem_singleton] at hx; subst hx; exact Nat.le_refl _
    · simp at hx
  | succ n ih =>
    intro f i val x hx
    simp only [lv] at hx
    split at hx
    · rw [List.mem_singleton] at hx; subst hx; show f.length ≤ _; omega
    · rw [List.mem_flatMap] at hx
      obtain ⟨k, _, hx⟩ := hx
      split at hx
      · simp at hx
      · have := ih _ _ _ x hx
        simp at this; omega
theorem lv_bd {zs : List StampT} (hs : stampsOk zs = true) (z : Bool) (rate : Int) : ∀ (n : Nat) (f : List Int) (i : Nat) (val : Int), val ≤ rate + 10000 → ∀ x ∈ lv zs z rate n f i val, 0 ≤ x.2 ∧ x.2 ≤ 100000 := by
  intro n
  induction n with
  | zero =>
    intro f i val hv x hx
    simp only [lv] at hx
    split at hx
    · rw [List.mem_singleton] at hx; subst hx; show 0 ≤ val - rate ∧ val - rate ≤ 100000; omega
    · simp at hx
  | succ n ih =>
    intro f i val hv x hx
    simp only [lv] at hx
    split at hx
    · rw [List.mem_singleton] at hx; subst hx; show 0 ≤ val - rate ∧ val - rate ≤ 100000; omega
    · rename_i hlt
      rw [List.mem_flatMap] at hx
      obtain ⟨k, _, hx⟩ := hx
      split at hx
      · simp at hx
      · exact ih _ _ _ (by have := faceAt_le hs k; omega) x hx
set_option maxRecDepth 100000 in
set_option maxHeartbeats 4000000 in
theorem l2Over_any (B : Nat) (a : Option Addr) (cap : Nat) (zs : List StampT) (hz : stampsOk zs = true) (rate : Int) (m : Nat) (hm6 : m ≤ 6) : ∀ (n : Nat) (rem : Int) (bg bc : Nat) (f : List Int) (i : Nat) (ua : Option Addr) (uc : Nat) (st : Fk) (w : World),
    f.length + n = m → -10000 ≤ rem → rem ≤ 2000 → i ≤ zs.length → st.1.length ≤ 6 → -1 ≤ st.2 ∧ st.2 ≤ 100000 → B ≤ w.heap.size → Reads w a (stamps zs) → w.ownsRow B 3 1 (.slice (some ⟨bg, 0, none⟩) f.length bc) f.length (ints f) → w.ownsRow B 3 1 (.slice ua st.1.length uc) st.1.length (ints st.1) →
    Calls Try.prog 31 #[.slice a zs.length cap, .int .i64 rem, .int .i64 (m : Int), .slice (some ⟨bg, 0, none⟩) f.length bc, .int .i64 (i : Int), .slice ua st.1.length uc, .int .i64 st.2] w (LeastOut B w (foldB (lv zs true rate n f i (rate - rem)) st)) := by
  intro n
  induction n with
  | zero =>
    intro rem bg bc f i ua uc st w hfm hr1 hr2 hi hl6 ho hB hr hf hu
    have HF := Lib.hid hf
    have HU := Lib.hid hu
    have HR := Lib.hid hr
    have HBW := Lib.hid hB
    obtain ⟨us, uo⟩ := st
    simp only at hl6 ho HU ⊢
    clear hf hu hr hB
    by_cases hle : rem ≤ 0
    · have HL := Lib.hid (show foldB (lv zs true rate 0 f i (rate - rem)) (us, uo) = updF (us, uo) (f, -rem) by rw [lv_leaf (by omega), show rate - rem - rate = -rem by omega]; rfl)
      have hd : decide (rem ≤ 0) = true := by simpa using hle
      have hw0 : IntKind.i64.wrap (-rem) = -rem := small_in2 (by omega) (by omega)
      have HOW := Lib.hid (fun (wx : World) (h : wx.ownsRow B 3 1 (.slice (some ⟨bg, 0, none⟩) f.length bc) f.length (ints f)) => l1Own_any bg bc f B wx (by omega) h)
      have HB4 := Lib.hid (fun wx (h1 : Reads wx (some ⟨bg, 0, none⟩) (ints f)) h2 => l2Before_any (some ⟨bg, 0, none⟩) ua bc uc f us wx (by omega) (by omega) h1 h2)
      by_cases h1 : uo < 0
      · have HT := Lib.hid (show updF (us, uo) (f, -rem) = (f, -rem) by simp [updF, betF, h1])
        have hd1 : decide (uo < 0) = true := by simpa using h1
        go_enter Try.func31, Try.ntmps31
        go_wp2_with fail
        refine (HOW.out _ HF.out).mono ?_
        rintro e w1 ⟨va, vc, rfl, hown, hb⟩
        have HO1 := Lib.hid (World.ownsRow.mono hown HBW.out)
        have HB1 := Lib.hid hb
        clear hown hb
        go_wp2_with fail
        go_ret2
        rw [HL.out, HT.out]
        exact ⟨_, _, rfl, HO1.out, HB1.out⟩
      have hd1 : decide (uo < 0) = false := by simpa using h1
      by_cases h2 : -rem < uo
      · have HT := Lib.hid (show updF (us, uo) (f, -rem) = (f, -rem) by simp [updF, betF, h2])
        have hd2 : decide (-rem < uo) = true := by simpa using h2
        go_enter Try.func31, Try.ntmps31
        go_wp2_with fail
        refine (HOW.out _ HF.out).mono ?_
        rintro e w1 ⟨va, vc, rfl, hown, hb⟩
        have HO1 := Lib.hid (World.ownsRow.mono hown HBW.out)
        have HB1 := Lib.hid hb
        clear hown hb
        go_wp2_with fail
        go_ret2
        rw [HL.out, HT.out]
        exact ⟨_, _, rfl, HO1.out, HB1.out⟩
      have hd2 : decide (-rem < uo) = false := by simpa using h2
      by_cases h3 : -rem = uo
      · have hd3 : (-rem == uo) = true := by simpa using h3
        cases hbf : befB f us
        · have HT := Lib.hid (show updF (us, uo) (f, -rem) = (us, uo) by simp [updF, betF, h1, h2, hbf])
          rw [hbf] at HB4
          clear h3 hbf
          go_enter Try.func31, Try.ntmps31
          go_wp2_with fail
          refine (HB4.out _ (own_reads HF.out) (own_reads HU.out)).mono ?_
          rintro e w1 ⟨rfl, hdr⟩
          have HB1 := Lib.hid (hdr.below w.heap.size)
          have HU1 := Lib.hid (own_below HU.out HB1.out)
          clear hdr
          go_wp2_with fail
          go_ret2
          rw [HL.out, HT.out]
          exact ⟨_, _, rfl, HU1.out, HB1.out⟩
        · have HT := Lib.hid (show updF (us, uo) (f, -rem) = (f, -rem) by simp [updF, betF, h3, hbf])
          rw [hbf] at HB4
          clear h3 hbf
          go_enter Try.func31, Try.ntmps31
          go_wp2_with fail
          refine (HB4.out _ (own_reads HF.out) (own_reads HU.out)).mono ?_
          rintro e w1 ⟨rfl, hdr⟩
          have HB1 := Lib.hid (hdr.below w.heap.size)
          have HF1 := Lib.hid (own_below HF.out HB1.out)
          clear hdr
          go_wp2_with fail
          refine (HOW.out _ HF1.out).mono ?_
          rintro e w2 ⟨va, vc, rfl, hown, hb⟩
          have HO2 := Lib.hid (World.ownsRow.mono hown (Nat.le_trans HBW.out HB1.out.size))
          have HB2 := Lib.hid (HB1.out.trans (hb.mono HB1.out.size))
          clear hown hb
          go_wp2_with fail
          go_ret2
          rw [HL.out, HT.out]
          exact ⟨_, _, rfl, HO2.out, HB2.out⟩
      · have hd3 : (-rem == uo) = false := by simpa using h3
        have HT := Lib.hid (show updF (us, uo) (f, -rem) = (us, uo) by simp [updF, betF, h1, h2, h3])
        go_enter Try.func31, Try.ntmps31
        go_wp2_with fail
        go_ret2
        rw [HL.out, HT.out]
        exact ⟨_, _, rfl, HU.out, Below.refl _ _⟩
    · have HL := Lib.hid (show foldB (lv zs true rate 0 f i (rate - rem)) (us, uo) = (us, uo) by rw [lv_zero (by omega)]; rfl)
      rw [HL.out]
      have hd : decide (rem ≤ 0) = false := by simpa using hle
      have hd2 : decide (f.length < m) = false := by simp; omega
      have hmf : f.length = m := by omega
      go_enter Try.func31, Try.ntmps31
      go_wp2_with fail
      go_loopw [5, 6, 16] (fun v o j wr => v = .slice ua us.length uc ∧ o = .int .i64 uo ∧ j = .int .i64 (i : Int) ∧ wr = w) (fun _ _ _ _ => 0)
      case atStart => exact ⟨rfl, rfl, rfl, rfl⟩
      case round =>
        obtain ⟨rfl, rfl, rfl, rfl⟩ := hrel
        by_cases hil : i < zs.length
        · have hd3 : decide (i < zs.length) = true := by simpa using hil
          go_wp2_with fail
          go_ret2
          exact ⟨_, _, rfl, HU.out, Below.refl _ _⟩
        · have hd3 : decide (i < zs.length) = false := by simpa using hil
          go_wp2_with fail
          go_ret2
          exact ⟨_, _, rfl, HU.out, Below.refl _ _⟩
  | succ n ih =>
    intro rem bg bc f i ua uc st w hfm hr1 hr2 hi hl6 ho hB hr hf hu
    have HF := Lib.hid hf
    have HU := Lib.hid hu
    have HR := Lib.hid hr
    have HBW := Lib.hid hB
    obtain ⟨us, uo⟩ := st
    simp only at hl6 ho HU ⊢
    clear hf hu hr hB
    by_cases hle : rem ≤ 0
    · clear ih
      have HL := Lib.hid (show foldB (lv zs true rate (n + 1) f i (rate - rem)) (us, uo) = updF (us, uo) (f, -rem) by rw [lv_leaf (by omega), show rate - rem - rate = -rem by omega]; rfl)
      have hd : decide (rem ≤ 0) = true := by simpa using hle
      have hw0 : IntKind.i64.wrap (-rem) = -rem := small_in2 (by omega) (by omega)
      have HOW := Lib.hid (fun (wx : World) (h : wx.ownsRow B 3 1 (.slice (some ⟨bg, 0, none⟩) f.length bc) f.length (ints f)) => l1Own_any bg bc f B wx (by omega) h)
      have HB4 := Lib.hid (fun wx (h1 : Reads wx (some ⟨bg, 0, none⟩) (ints f)) h2 => l2Before_any (some ⟨bg, 0, none⟩) ua bc uc f us wx (by omega) (by omega) h1 h2)
      by_cases h1 : uo < 0
      · have HT := Lib.hid (show updF (us, uo) (f, -rem) = (f, -rem) by simp [updF, betF, h1])
        have hd1 : decide (uo < 0) = true := by simpa using h1
        go_enter Try.func31, Try.ntmps31
        go_wp2_with fail
        refine (HOW.out _ HF.out).mono ?_
        rintro e w1 ⟨va, vc, rfl, hown, hb⟩
        have HO1 := Lib.hid (World.ownsRow.mono hown HBW.out)
        have HB1 := Lib.hid hb
        clear hown hb
        go_wp2_with fail
        go_ret2
        rw [HL.out, HT.out]
        exact ⟨_, _, rfl, HO1.out, HB1.out⟩
      have hd1 : decide (uo < 0) = false := by simpa using h1
      by_cases h2 : -rem < uo
      · have HT := Lib.hid (show updF (us, uo) (f, -rem) = (f, -rem) by simp [updF, betF, h2])
        have hd2 : decide (-rem < uo) = true := by simpa using h2
        go_enter Try.func31, Try.ntmps31
        go_wp2_with fail
        refine (HOW.out _ HF.out).mono ?_
        rintro e w1 ⟨va, vc, rfl, hown, hb⟩
        have HO1 := Lib.hid (World.ownsRow.mono hown HBW.out)
        have HB1 := Lib.hid hb
        clear hown hb
        go_wp2_with fail
        go_ret2
        rw [HL.out, HT.out]
        exact ⟨_, _, rfl, HO1.out, HB1.out⟩
      have hd2 : decide (-rem < uo) = false := by simpa using h2
      by_cases h3 : -rem = uo
      · have hd3 : (-rem == uo) = true := by simpa using h3
        cases hbf : befB f us
        · have HT := Lib.hid (show updF (us, uo) (f, -rem) = (us, uo) by simp [updF, betF, h1, h2, hbf])
          rw [hbf] at HB4
          clear h3 hbf
          go_enter Try.func31, Try.ntmps31
          go_wp2_with fail
          refine (HB4.out _ (own_reads HF.out) (own_reads HU.out)).mono ?_
          rintro e w1 ⟨rfl, hdr⟩
          have HB1 := Lib.hid (hdr.below w.heap.size)
          have HU1 := Lib.hid (own_below HU.out HB1.out)
          clear hdr
          go_wp2_with fail
          go_ret2
          rw [HL.out, HT.out]
          exact ⟨_, _, rfl, HU1.out, HB1.out⟩
        · have HT := Lib.hid (show updF (us, uo) (f, -rem) = (f, -rem) by simp [updF, betF, h3, hbf])
          rw [hbf] at HB4
          clear h3 hbf
          go_enter Try.func31, Try.ntmps31
          go_wp2_with fail
          refine (HB4.out _ (own_reads HF.out) (own_reads HU.out)).mono ?_
          rintro e w1 ⟨rfl, hdr⟩
          have HB1 := Lib.hid (hdr.below w.heap.size)
          have HF1 := Lib.hid (own_below HF.out HB1.out)
          clear hdr
          go_wp2_with fail
          refine (HOW.out _ HF1.out).mono ?_
          rintro e w2 ⟨va, vc, rfl, hown, hb⟩
          have HO2 := Lib.hid (World.ownsRow.mono hown (Nat.le_trans HBW.out HB1.out.size))
          have HB2 := Lib.hid (HB1.out.trans (hb.mono HB1.out.size))
          clear hown hb
          go_wp2_with fail
          go_ret2
          rw [HL.out, HT.out]
          exact ⟨_, _, rfl, HO2.out, HB2.out⟩
      · have hd3 : (-rem == uo) = false := by simpa using h3
        have HT := Lib.hid (show updF (us, uo) (f, -rem) = (us, uo) by simp [updF, betF, h1, h2, h3])
        go_enter Try.func31, Try.ntmps31
        go_wp2_with fail
        go_ret2
        rw [HL.out, HT.out]
        exact ⟨_, _, rfl, HU.out, Below.refl _ _⟩
    · obtain ⟨ti, qi, qz0, qz1, qz2⟩ := info_parts info_int
      have HIH := Lib.hid ih
      have hd : decide (rem ≤ 0) = false := by simpa using hle
      have hd2 : decide (f.length < m) = true := by simp; omega
      have hfl : f.length ≤ 5 := by omega
      have HALL := Lib.hid (lvTo_all (zs := zs) (z := true) (n := n) (f := f) (from0 := i) (show ¬ rate ≤ rate - rem by omega))
      have HMF := Lib.hid hfm
      have hmf2 : f.length < m := by omega
      clear ih hfm
      go_enter Try.func31, Try.ntmps31
      go_wp2_with fail
      go_loopw [5, 6, 16] (fun v o jv wr => ∃ (j : Nat) (va : Option Addr) (vc : Nat) (vs : List Int) (vo : Int), i ≤ j ∧ j ≤ zs.length ∧ jv = .int .i64 (j : Int) ∧ v = .slice va vs.length vc ∧ o = .int .i64 vo ∧ Hid (foldB (lvTo zs true rate n f i (rate - rem) (j - i)) (us, uo) = (vs, vo)) ∧ Hid (vs.length ≤ 6 ∧ -1 ≤ vo ∧ vo ≤ 100000) ∧ Hid (wr.ownsRow B 3 1 (.slice va vs.length vc) vs.length (ints vs)) ∧ Below w.heap.size w wr) (fun _ _ jv _ => zs.length - (intOf jv).toNat)
      case atStart => exact ⟨i, ua, uc, us, uo, Nat.le_refl _, hi, rfl, rfl, rfl, Lib.hid (by rw [Nat.sub_self, lvTo_zero]; rfl), Lib.hid ⟨hl6, ho⟩, HU, Below.refl _ _⟩
      case round =>
        obtain ⟨j, va, vc, vs, vo, hij, hjl, rfl, rfl, rfl, hrun, hbd, hown, hbel⟩ := hrel
        by_cases hlt : j < zs.length
        · have hd3 : decide (j < zs.length) = true := by simpa using hlt
          have hzl := stampsOk_len hz
          have hsuc := lvTo_succ zs true rate n f i (rate - rem) (j - i)
          rw [show j - i + 1 = j + 1 - i by omega, show i + (j - i) = j by omega] at hsuc
          obtain ⟨fc, hfc⟩ : ∃ fc, fc = faceAt zs j := ⟨_, rfl⟩
          have hfc0 : 0 ≤ fc ∧ fc ≤ 9999 := by rw [hfc]; exact ⟨faceAt_nonneg hz j, faceAt_le hz j⟩
          rw [← hfc] at hsuc
          rcases HR.out.below hbel with h0 | ⟨b, off, rfl, hb, hc⟩
          · have := stamps_length zs; rw [h0] at this; simp at this; omega
          have hcl := hc _ _ (stamps_get hlt).2.1
          simp only [← Nat.add_assoc] at hcl
          rw [show zs[j].face = fc by rw [hfc, faceAt, stamp_getD hlt]] at hcl
          have i0 : (0 : Int) ≤ (j : Int) := by omega
          have i1 : (j : Int) < (zs.length : Int) := by omega
          have HBL := Lib.hid hbel
          have HFr := Lib.hid (own_below HF.out hbel)
          have HZr := Lib.hid (Reads.below HR.out hbel)
          clear hc hfc hbel
          by_cases hf0 : fc ≤ 0
          · have hd4 : decide (0 < fc) = false := by simp; omega
            have HS := Lib.hid (show foldB (lvTo zs true rate n f i (rate - rem) (j + 1 - i)) (us, uo) = (vs, vo) by rw [hsuc, if_pos (by simpa using hf0), List.append_nil]; exact hrun.out)
            clear hsuc
            go_wp2_with fail
            go_roundw
            case rel => exact ⟨j + 1, va, vc, vs, vo, by omega, by omega, by go_num, rfl, rfl, HS, hbd, hown, HBL.out⟩
            case measure => simp [intOf]; omega
          · have hd4 : decide (0 < fc) = true := by simp; omega
            rw [if_neg (by simp; omega)] at hsuc
            obtain ⟨⟨ns, no⟩, hn⟩ : ∃ r, r = foldB (lv zs true rate n (f ++ [(j : Int)]) j (rate - rem + fc)) (vs, vo) := ⟨_, rfl⟩
            have HS := Lib.hid (show foldB (lvTo zs true rate n f i (rate - rem) (j + 1 - i)) (us, uo) = (ns, no) by rw [hsuc, foldB_app, hrun.out, hn])
            have hnb : ns.length ≤ 6 ∧ -1 ≤ no ∧ no ≤ 100000 := by
              have k1 := foldB_len (m := 6) (L := lv zs true rate n (f ++ [(j : Int)]) j (rate - rem + fc)) (st := (vs, vo)) hbd.out.1 (fun x hx => by have h1 := lv_len _ _ _ _ _ _ _ x hx; rw [show (f ++ [(j : Int)]).length = f.length + 1 by simp] at h1; have := HMF.out; omega)
              have k2 := foldB_bd (L := lv zs true rate n (f ++ [(j : Int)]) j (rate - rem + fc)) (st := (vs, vo)) hbd.out.2 (lv_bd hz _ _ _ _ _ _ (by omega))
              rw [← hn] at k1 k2
              exact ⟨k1, k2⟩
            have HNB := Lib.hid hnb
            have HCALL : Hid (∀ (g3 c3 : Nat) (w3 : World), Below wr.heap.size wr w3 → w3.ownsRow wr.heap.size 3 1 (.slice (some ⟨g3, 0, none⟩) (f.length + 1) c3) (f.length + 1) (ints f ++ [.int .i64 (j : Int)]) →
                Calls Try.prog 31 #[.slice (some ⟨b, off, none⟩) zs.length cap, .int .i64 (rem - fc), .int .i64 (m : Int), .slice (some ⟨g3, 0, none⟩) (f.length + 1) c3, .int .i64 (j : Int), .slice va vs.length vc, .int .i64 vo] w3 (LeastOut B w3 (ns, no))) := Lib.hid (fun g3 c3 w3 hb3 ho3 => by
              have hl1 : (f ++ [(j : Int)]).length = f.length + 1 := by simp
              have := HIH.out (rem - fc) g3 c3 (f ++ [(j : Int)]) j va vc (vs, vo) w3 (by rw [hl1]; have := HMF.out; omega) (by omega) (by omega) (by omega) hbd.out.1 hbd.out.2 (Nat.le_trans HBW.out (Nat.le_trans HBL.out.size hb3.size)) (HZr.out.below hb3)
                (by rw [hl1]; have := World.ownsRow.mono ho3 (Nat.le_trans HBW.out HBL.out.size); simpa [ints] using this) (own_below hown.out hb3)
              rw [hl1, show rate - (rem - fc) = rate - rem + fc by omega, ← hn] at this
              exact this)
            have HOW := Lib.hid (fun (wx : World) (h : Below wr.heap.size wr wx) => l1Own_any bg bc f B wx (by omega) (own_below HFr.out h))
            have hw9 : IntKind.i64.wrap (rem - fc) = rem - fc := small_in2 (by omega) (by omega)
            have QC : Hid (f.length + 1 ≤ maxLen) := Lib.hid (by unfold maxLen; omega)
            have QD : Hid ((f.length + 1) * 8 ≤ 140737488355328) := Lib.hid (by omega)
            have QE : Hid (∀ u ∈ [Value.int .i64 (j : Int)], u.oneCell' = true) := Lib.hid (by simp [Value.oneCell'])
            have HB9 := Lib.hid ((Go.Joins.below_alloc1 wr (.cells #[.int .i64 (j : Int)] 3)).drew)
            have HP9 : Hid (RowIs (wr.alloc (.cells #[.int .i64 (j : Int)] 3)).drew wr.heap.size 3 [.int .i64 (j : Int)]) := Lib.hid ((RowIs.new wr 3 [.int .i64 (j : Int)]).dr (Dr.of _ 1))
            have QF : Hid (0 < f.length + 1) := Lib.hid (by omega)
            clear hsuc hn hnb
            go_wp2_with fail
            go_region_held3 (fun w' => w'.cell? ⟨b, off + j * 4 + 1, none⟩ = some (.int .i64 fc))
              (first | exact hcl | exact cell_later hbw hcl | exact cell_later hb3 hcl | exact cell_later hb4 (cell_later hb3 hcl) | go_keep)
              (first
                | (go_at_call 51; refine (HOW.out _ (Below.refl wr.heap.size wr).drew).mono ?_; rintro e w2 ⟨oa, oc, rfl, ho2, hb2⟩; have hbw := (Below.refl wr.heap.size wr).drew.trans (hb2.mono (Nat.le_refl _)))
                | (go_at_call 51; refine (HOW.out _ HB9.out).mono ?_; rintro e w2 ⟨oa, oc, rfl, ho5, hb5⟩; have hbw := HB9.out.trans (hb5.mono HB9.out.size); have hp5 := HP9.out.below hb5)
                | (have hq := ho2; clear hq; refine step_append_own1 rfl (.tmp 74) (.tmp 76) _ (by rfl) wr.heap.size 3 ti (.int .i64 0) 1 8 Try.underlying24 qi qz0 qz1 qz2 rfl (by decide) _ _ _ (by rfl) (ho2.alloc _) ⟨w2.heap.size, 0, none⟩ 1 1 [.int .i64 (j : Int)] (by rfl) (by rfl) (World.news_of_block (cs := #[.int .i64 (j : Int)]) (t := 3) (fr := (0, 0)) (heap_alloc_new w2 _)) QE.out QC.out QD.out (Nat.le_trans hbw.size (Go.Joins.below_alloc1 w2 _).size) ?_; intro v3 w3 hown3 hgrow3; have hb3 : Below wr.heap.size wr w3 := (hbw.alloc hbw.size (.cells #[.int .i64 (j : Int)] 3)).grown hgrow3 (hbw.alloc hbw.size (.cells #[.int .i64 (j : Int)] 3)).size (fun q hq => (ho2.lt q hq).1); obtain ⟨g3, c3, rfl⟩ := Go.Joins.ownsRow_form hown3 QF.out)
                | (have hq := ho5; clear hq; refine step_append_own1 rfl (.tmp 74) (.tmp 76) _ (by rfl) wr.heap.size 3 ti (.int .i64 0) 1 8 Try.underlying24 qi qz0 qz1 qz2 rfl (by decide) _ _ _ (by rfl) (World.ownsRow.mono ho5 HB9.out.size) ⟨wr.heap.size, 0, none⟩ 1 1 [.int .i64 (j : Int)] (by rfl) (by rfl) (World.news_of_block (cs := #[.int .i64 (j : Int)]) (t := 3) (fr := (0, 0)) hp5) QE.out QC.out QD.out hbw.size ?_; intro v3 w3 hown3 hgrow3; have hb3 : Below wr.heap.size wr w3 := hbw.grown hgrow3 hbw.size (fun q hq => Nat.le_trans HB9.out.size (ho5.lt q hq).1); obtain ⟨g3, c3, rfl⟩ := Go.Joins.ownsRow_form hown3 QF.out)
                | (go_at_call 31; refine (HCALL.out g3 c3 _ hb3 hown3).mono ?_; rintro e w4 ⟨ra, rc, rfl, ho4, hb4⟩))
            all_goals
              have HB4 := Lib.hid (HBL.out.trans ((hb3.trans (hb4.mono hb3.size)).mono HBL.out.size))
              have HO4 := Lib.hid ho4
              clear hown3 hgrow3 hbw hb3 ho4 hb4 hcl
              try clear ho2 hb2
              try clear ho5 hb5 hp5
              go_wp2_with fail
              go_roundw
              case rel => exact ⟨j + 1, ra, rc, ns, no, by omega, by omega, by go_num, rfl, rfl, HS, HNB, HO4, HB4.out⟩
              case measure => simp [intOf]; omega
        · obtain rfl : j = zs.length := by omega
          have HFIN := Lib.hid (show foldB (lv zs true rate (n + 1) f i (rate - rem)) (us, uo) = (vs, vo) by rw [← HALL.out]; exact hrun.out)
          have hd3 : decide (zs.length < zs.length) = false := by simp
          have HO := Lib.hid hown.out
          clear hrun hown
          go_wp2_with fail
          go_ret2
          rw [HFIN.out]
          exact ⟨_, _, rfl, HO.out, hbel⟩
end Go.Proofs.Ytieopadbbciciaa
