/- The first rebuilding: the reference's side. -/
import Derived.Test.YtenedmkjbmbapaaRebP
import Derived.Test.YtenedmkjbmbapaaCntS
import Derived.Test.YtenedmkjbmbapaaAppK
import Derived.Test.YtenedmkjbmbapaaBlankS
import Derived.Test.YtenedmkjbmbapaaAskM
import Derived.Deep.RegionHeld3
namespace Go.Proofs.Ytenedmkjbmbapaa
open Go.RowKit

theorem pairs_one (ps : List (Int × Int)) : ∀ u ∈ pairs ps, u.oneCell' = true := by
  intro u hu
  simp only [pairs, List.mem_flatMap, pcells] at hu
  obtain ⟨p, _, h⟩ := hu
  simp at h
  rcases h with rfl | rfl <;> rfl
/-- the first leaf, or none -/
def firstL : List Leaf → Leaf × Bool
  | [] => (([], []), false)
  | l :: _ => (l, true)
theorem firstL_app {a b : List Leaf} (h : a ≠ []) : firstL (a ++ b) = firstL a := by
  cases a with
  | nil => exact absurd rfl h
  | cons l a => rfl
def FirstOut (B : Nat) (w : World) (r : Leaf × Bool) (e : Ending) (w' : World) : Prop := ∃ pa pc sa sc, e = .returned (.tuple #[.slice pa r.1.1.length pc, .slice sa r.1.2.length sc, .bool r.2]) ∧
  w'.ownsRow B 54 2 (.slice pa r.1.1.length pc) r.1.1.length (pairs r.1.1) ∧ w'.ownsRow B 9 1 (.slice sa r.1.2.length sc) r.1.2.length (strs r.1.2) ∧ Below w.heap.size w w'
theorem own_newP (u : World) (B : Nat) (h : B ≤ u.heap.size) : (u.alloc (.cells #[] 54)).ownsRow B 54 2 (.slice (some ⟨u.heap.size, 0, none⟩) 0 0) 0 [] := RowIs.owns (RowIs.new u 54 ([] : List Value)) (n := 0) (sz := 2) rfl (by unfold maxLen; omega) h
theorem step_append_own1 {P : Program} {w : World} {ops : Array Oper} {o : Oper} {a : Act} {K : Act → World → Prop} {Q : Exit → Act → World → Prop} {E : Prop} (hgd : o.guard = none) (s x : Operand) (t : TypeId)
    (ho : o.op = .call { callee := .builtin .append, args := #[s, x], argTypes := #[t, t] })
    (base : Nat) (e : TypeId) (i : TypeInfo) (z : Value) (size bytes : Nat) (ht : P.underlying t = some (.slice e)) (hi : P.info? e = some i) (hz : i.zero = some z)
    (hsize : i.size = size) (hby : i.bytes = bytes) (hzs : z.cells.size = size) (hsz : 0 < size) (v : Value) (n : Nat) (xs : List Value) (hs : a.eval s = v) (hown : w.ownsRow base e size v n xs)
    (ad : Addr) (m c : Nat) (news : List Value) (hx : a.eval x = .slice (some ad) m c) (hl : news.length = m * size) (hnews : ∀ j u, news[j]? = some u → w.cell? (ad.add j) = some u) (h1 : ∀ u ∈ news, u.oneCell' = true)
    (h63 : n + m ≤ maxLen) (hbytes : (n + m) * bytes ≤ 140737488355328) (hbase : base ≤ w.heap.size)
    (h : ∀ v' w', w'.ownsRow base e size v' (n + m) (xs ++ news) → w.grownBy w' v.ownBlock → K (a.put o.dst v') w') :
    if Region.wanted o (yielded ops a.tmps) = true then Oper.wp P o a w K Q else E := by
  have hw : Region.wanted o (yielded ops a.tmps) = true := by simp [Region.wanted, hgd]
  rw [if_pos hw]
  obtain ⟨v', w', hr, h2, h3, _⟩ := run_append_own (P := P) w base t o.type e i z size bytes ht hi hz hsize hby hzs hsz v n xs hown ad m c news hl hnews h1 h63 hbytes hbase
  unfold Oper.wp execOp
  simp only [ho, resolve, invoke, builtin, Sem.run_bind, Sem.run_pure, Result.andThen_ok, List.map_toArray, List.map_cons, List.map_nil, hs, hx, hr]
  exact h v' w' h2 h3
set_option maxRecDepth 100000 in
set_option maxHeartbeats 4000000 in
theorem l4First_any (B : Nat) (ba : Option Addr) (bc : Nat) (bs : List BlkT) (hbl : bs.length ≤ 4) (hbg : ∀ b ∈ bs, gridB b.zs 3 = true) : ∀ (n j : Nat), bs.length - j = n → j ≤ bs.length → ∀ (sa : Option Addr) (sc : Nat) (s : List ByteArray) (pg pc : Nat) (ps : List (Int × Int)) (w : World),
    gridB s 5 = true → ps.length = j → B ≤ w.heap.size → w.ownsRow B 9 1 (.slice sa s.length sc) s.length (strs s) → w.ownsRow B 54 2 (.slice (some ⟨pg, 0, none⟩) ps.length pc) ps.length (pairs ps) → BlksAt w ba bs →
    Calls Try.prog 59 #[.slice sa s.length sc, .slice ba bs.length bc, .slice (some ⟨pg, 0, none⟩) ps.length pc] w (FirstOut B w (firstL (leaves (zssB (bs.drop j)) s ps))) := by
  intro n
  induction n with
  | zero =>
    intro j hn hj sa sc s pg pc ps w gs hpj hB hs hp hb
    obtain rfl : j = bs.length := by omega
    have HR : Hid (firstL (leaves (zssB (bs.drop bs.length)) s ps) = ((ps, s), true)) := Lib.hid (by rw [List.drop_length]; rfl)
    have HS := Lib.hid hs
    have HP := Lib.hid hp
    have hpe : ((ps.length : Int) == (bs.length : Int)) = true := by simp; omega
    rw [HR.out]
    clear hs hp hb hbg gs
    go_enter Try.func59, Try.ntmps59
    go_wp2_with fail
    go_ret3
    exact ⟨_, _, _, _, rfl, HP.out, HS.out, Below.refl _ _⟩
  | succ n ih =>
    intro j hn hj sa sc s pg pc ps w gs hpj hB hs hp hb
    obtain ⟨i0, hi, hz0, hz1, hz2⟩ := info_parts info_pair
    subst hpj
    have hjl : ps.length < bs.length := by omega
    have HG := Lib.hid gs
    have gb := hbg _ (List.getElem_mem hjl)
    have HZ := Lib.hid (zssB_drop hjl)
    have HS := Lib.hid hs
    have HSR := Lib.hid (own_reads hs)
    have HP := Lib.hid hp
    have HB := Lib.hid hb
    have HBB := Lib.hid hB
    have hin := hb.inner _ (List.getElem_mem hjl)
    have hne2 : ((ps.length : Int) == (bs.length : Int)) = false := by simp; omega
    have hlt0 : (ps.length : Int) < (bs.length : Int) := by omega
    have hlt1 : (0 : Int) ≤ (ps.length : Int) := by omega
    rcases hb.outer with h0 | ⟨b, off, rfl, hbk, hc⟩
    · have := blks_length bs; rw [h0] at this; simp at this; omega
    have hc0 := hc _ _ (blks_get hjl)
    obtain ⟨⟨ya, yc, ys⟩, hy⟩ : ∃ y, y = bs[ps.length] := ⟨_, rfl⟩
    rw [← hy] at hin gb HZ hc0
    simp only at hc0 hin gb HZ
    have HY := Lib.hid hin
    have HGB := Lib.hid gb
    obtain ⟨rest, hrest⟩ : ∃ rest, rest = zssB (bs.drop (ps.length + 1)) := ⟨_, rfl⟩
    rw [← hrest] at HZ
    have HIH := Lib.hid (fun sa sc s pg pc qs w g1 g2 g3 g4 g5 g6 => ih (ps.length + 1) (by omega) (by omega) sa sc s pg pc qs w g1 g2 g3 g4 g5 g6)
    rw [← hrest] at HIH
    rw [HZ.out]
    have HALL := Lib.hid (leavesTo_all ys rest s ps)
    have HSUC := Lib.hid (fun k h => leavesTo_succ (b := ys) (bs := rest) (s := s) (ps := ps) (k := k) h)
    have B1 := Lib.hid (Go.Joins.below_alloc1 w (.cells #[.slice ya ys.length yc] 45))
    have BX := Lib.hid (RowIs.new w 45 [.slice ya ys.length yc])
    have hps4 : ps.length ≤ 4 := by omega
    clear ih hs hp hb hin gb hc hy hrest gs hB hn hjl
    go_enter Try.func59, Try.ntmps59
    go_wp2_with fail
    have x0 := BX.out.cell (j := 0) rfl
    generalize w.alloc (.cells #[.slice ya ys.length yc] 45) = w0 at *
    go_wp2_with fail
    refine (l4Places_any _ _ _ _ s ys _ HG.out HGB.out (HSR.out.below B1.out) (HY.out.below B1.out)).mono ?_
    rintro e w1 ⟨pa, pac, rfl, hown, hb1⟩
    have HPL := Lib.hid hown
    have HB1 := Lib.hid (B1.out.trans (hb1.mono B1.out.size))
    have BX1 := Lib.hid (BX.out.below hb1)
    have hpl := plF_len' (ys := ys) HG.out
    clear hown hb1 x0
    go_wp2_with fail
    obtain ⟨pl, hpe⟩ : ∃ pl, pl = plF s ys := ⟨_, rfl⟩
    rw [← hpe] at HPL hpl HALL ⊢
    have HPE := Lib.hid hpe
    clear hpe
    go_loopw [11] (fun i wr => ∃ i0 : Nat, i0 ≤ pl.length ∧ i = .int .i64 i0 ∧ Hid (leavesTo ys rest s ps i0 = []) ∧ Below w1.heap.size w1 wr) (fun i _ => pl.length - (intOf i).toNat)
    case atStart => exact ⟨0, by omega, rfl, Lib.hid (leavesTo_zero _ _ _ _), Below.refl _ _⟩
    case round =>
      obtain ⟨i, hil, rfl, hno, hbel⟩ := hrel
      by_cases hlt : i < pl.length
      · have hpm : pl[i] ∈ plF s ys := by rw [← HPE.out]; exact List.getElem_mem hlt
        have hpg := layR_grid HG.out HGB.out hpm
        have hlr := layR_len hpm
        have hsuc : leavesTo ys rest s ps (i + 1) = leavesTo ys rest s ps i ++ leaves rest (layR s ys pl[i].1 pl[i].2) (ps ++ [pl[i]]) := by
          have h := HSUC.out i (by rw [← HPE.out]; exact hlt)
          simp only [← HPE.out] at h; exact h
        have hpre : ∃ r, leaves (ys :: rest) s ps = leavesTo ys rest s ps (i + 1) ++ r := by
          refine ⟨((plF s ys).drop (i + 1)).flatMap fun p => leaves rest (layR s ys p.1 p.2) (ps ++ [p]), ?_⟩
          unfold leavesTo
          rw [← List.flatMap_append, List.take_append_drop]
          rfl
        have hplr := own_reads HPL.out
        rcases hplr with h0 | ⟨pb, po, rfl, hpb, hpc⟩
        · have := pairs_length pl; rw [h0] at this; simp at this; omega
        obtain ⟨g0, g1⟩ := pairs_get hlt
        have d0 := (hbel.cell (p := ⟨pb, _, none⟩) hpb).trans (hpc _ _ g0)
        have d1 := (hbel.cell (p := ⟨pb, _, none⟩) hpb).trans (hpc _ _ g1)
        simp only [← Nat.add_assoc] at d1
        have HLY := Lib.hid (fun w hx hy => l4LayR_any sa ya sc yc s ys pl[i] w HG.out HGB.out hpm hx hy)
        obtain ⟨⟨p1, p2⟩, hpp⟩ : ∃ p, p = pl[i] := ⟨_, rfl⟩
        rw [← hpp] at d0 d1 HLY hpg hlr hsuc
        simp only at d0 d1 HLY hpg hlr hsuc
        obtain ⟨s2, hs2⟩ : ∃ s2, s2 = layR s ys p1 p2 := ⟨_, rfl⟩
        rw [← hs2] at hpg hlr hsuc HLY
        have HPG := Lib.hid hpg
        have HLR := Lib.hid hlr
        have HNO := Lib.hid (show leavesTo ys rest s ps (i + 1) = leaves rest s2 (ps ++ [(p1, p2)]) by rw [hsuc, hno.out, List.nil_append])
        have HPRE := Lib.hid hpre
        have hB2 := HB1.out.trans (hbel.mono HB1.out.size)
        have HX1 := Lib.hid hbel
        have cY := (BX1.out.below hbel).cell (j := 0) rfl
        have HSr := Lib.hid (HSR.out.below hB2)
        have HPr := Lib.hid (own_below HP.out hB2)
        have HYr := Lib.hid (HY.out.below hB2)
        have HBr := Lib.hid (HB.out.below hB2)
        have HBW := Lib.hid hB2
        have i0' : (0 : Int) ≤ (i : Int) := by omega
        have i1' : (i : Int) < (pl.length : Int) := by omega
        have HRW := Lib.hid (RowIs.new wr 54 [.int .i64 p1, .int .i64 p2])
        clear hpm hpg hlr hsuc hpre g0 g1 hpc hpp hs2 hB2 hbel hno
        go_wp2_with fail
        generalize hwn : wr.alloc (.cells #[.int .i64 p1, .int .i64 p2] 54) = wn at *
        have HWN := Lib.hid hwn
        have HBn := Lib.hid (show Below wr.heap.size wr wn by rw [← hwn]; exact Go.Joins.below_alloc1 _ _)
        have HPn := Lib.hid (own_below HPr.out HBn.out)
        have e0 := HRW.out.cell (j := 0) rfl
        have e1 := HRW.out.cell (j := 1) rfl
        have HBwn := Lib.hid (Nat.le_trans HBB.out (Nat.le_trans HBW.out.size HBn.out.size))
        have hk45 : ps.length * 2 = (pairs ps).length := (pairs_length ps).symm
        clear hwn
        have hwnlt : wr.heap.size < wn.heap.size := HRW.out.lt
        have HSA : Hid (Below wn.heap.size wn (wn.alloc (.cells #[] 54)).drew ∧ (wn.alloc (.cells #[] 54)).drew.ownsRow wn.heap.size 54 2 (.slice (some ⟨wn.heap.size, 0, none⟩) 0 0) 0 []) := Lib.hid ⟨(Go.Joins.below_alloc1 wn _).drew, (own_newP wn wn.heap.size (Nat.le_refl _)).drew⟩
        have HSB : Hid (Below wn.heap.size wn ((wn.alloc (.cells #[] 54)).alloc (.cells #[.int .i64 p1, .int .i64 p2] 54)).drew ∧ ((wn.alloc (.cells #[] 54)).alloc (.cells #[.int .i64 p1, .int .i64 p2] 54)).drew.ownsRow wn.heap.size 54 2 (.slice (some ⟨wn.heap.size, 0, none⟩) 0 0) 0 [] ∧ RowIs ((wn.alloc (.cells #[] 54)).alloc (.cells #[.int .i64 p1, .int .i64 p2] 54)).drew (wn.heap.size + 1) 54 [.int .i64 p1, .int .i64 p2]) :=
          Lib.hid ⟨(Go.Joins.below_alloc2 wn _ _).drew, ((own_newP wn wn.heap.size (Nat.le_refl _)).alloc _).drew, by
            have := RowIs.new (wn.alloc (.cells #[] 54)) 54 [.int .i64 p1, .int .i64 p2]
            rw [show (wn.alloc (.cells #[] 54)).heap.size = wn.heap.size + 1 by simp] at this
            exact this.dr (Dr.of _ 1)⟩
        have HSC : Hid (Below wn.heap.size wn ((wn.alloc (.cells #[.int .i64 p1, .int .i64 p2] 54)).alloc (.cells #[] 54)).drew ∧ ((wn.alloc (.cells #[.int .i64 p1, .int .i64 p2] 54)).alloc (.cells #[] 54)).drew.ownsRow wn.heap.size 54 2 (.slice (some ⟨wn.heap.size + 1, 0, none⟩) 0 0) 0 [] ∧ RowIs ((wn.alloc (.cells #[.int .i64 p1, .int .i64 p2] 54)).alloc (.cells #[] 54)).drew wn.heap.size 54 [.int .i64 p1, .int .i64 p2]) :=
          Lib.hid ⟨(Go.Joins.below_alloc2 wn _ _).drew, by have := (own_newP (wn.alloc (.cells #[.int .i64 p1, .int .i64 p2] 54)) wn.heap.size (by simp)).drew; simpa using this, ((RowIs.new wn 54 [.int .i64 p1, .int .i64 p2]).alloc _).dr (Dr.of _ 1)⟩
        have HS4 := Lib.hid (fun (wx : World) (h : Below wn.heap.size wn wx) j u (hu : (pairs ps)[j]? = some u) => (own_below HPn.out h).cells (g := pg) rfl j u hu)
        have HK5 : Hid (∀ (wx w5 : World) (v : Value), Below wn.heap.size wn wx → wx.grownBy w5 v.ownBlock → (∀ q, v.ownBlock = some q → wn.heap.size ≤ q) → RowIs w5 wr.heap.size 54 [.int .i64 p1, .int .i64 p2]) := Lib.hid (fun wx w5 v hb hg hq =>
          (HRW.out.below hb).grown hg (fun e => by have := hq _ e.symm; omega))
        have HK9 : Hid (∀ w5 w9 (v5 : Value) n xs, w5.ownsRow wn.heap.size 54 2 v5 n xs → RowIs w5 wr.heap.size 54 [.int .i64 p1, .int .i64 p2] → ∀ wy, Below w5.heap.size w5 wy → wy.grownBy w9 v5.ownBlock → RowIs w9 wr.heap.size 54 [.int .i64 p1, .int .i64 p2]) := Lib.hid (fun w5 w9 v5 n xs ho hr wy hb hg =>
          (hr.below hb).grown hg (fun e => by have := (ho.lt _ e.symm).1; omega))
        have QA : Hid (0 + ps.length ≤ maxLen) := Lib.hid (by unfold maxLen; omega)
        have QB : Hid ((0 + ps.length) * 16 ≤ 140737488355328) := Lib.hid (by omega)
        have QC : Hid (0 + ps.length + 1 ≤ maxLen) := Lib.hid (by unfold maxLen; omega)
        have QD : Hid ((0 + ps.length + 1) * 16 ≤ 140737488355328) := Lib.hid (by omega)
        have QE : Hid (∀ u ∈ pcells (p1, p2), u.oneCell' = true) := Lib.hid (by simp [pcells, Value.oneCell'])
        have HON := Lib.hid (pairs_one ps)
        go_region_held3 (fun w' => w'.cell? ⟨wr.heap.size, 0, none⟩ = some (.int .i64 p1) ∧ w'.cell? ⟨wr.heap.size, 1, none⟩ = some (.int .i64 p2))
          (first | exact ⟨e0, e1⟩ | (have hr := HK5.out _ _ _ hbx hgrow5 hq5; exact ⟨hr.cell (j := 0) rfl, hr.cell (j := 1) rfl⟩) | (have hr := HK9.out _ _ _ _ _ hown5 (HK5.out _ _ _ hbx hgrow5 hq5) _ hby hgrow9; exact ⟨hr.cell (j := 0) rfl, hr.cell (j := 1) rfl⟩) | go_keep)
          (first
            | (have hpq := hp5; clear hpq; refine step_append_own1 rfl (.tmp 44) (.tmp 46) _ (by rfl) wn.heap.size 54 i0 _ 2 16 Try.underlying30 hi hz0 hz1 hz2 rfl (by decide) _ _ _ (by rfl) hown5 _ 1 1 (pcells (p1, p2)) (by rfl) (by rfl) (World.news_of_block (cs := (pcells (p1, p2)).toArray) (t := 54) (fr := (0, 0)) hp5) QE.out QC.out QD.out (Nat.le_trans (Nat.le_trans hbx.size hgrow5.size) (Below.refl w5.heap.size w5).size) ?_; intro v9 w9 hown9 hgrow9; have hby := (Below.refl w5.heap.size w5))
            | (have hpq := hp5; clear hpq; refine step_append_own1 rfl (.tmp 44) (.tmp 46) _ (by rfl) wn.heap.size 54 i0 _ 2 16 Try.underlying30 hi hz0 hz1 hz2 rfl (by decide) _ _ _ (by rfl) hown5.drew _ 1 1 (pcells (p1, p2)) (by rfl) (by rfl) (World.news_of_block (cs := (pcells (p1, p2)).toArray) (t := 54) (fr := (0, 0)) (hp5.dr (Dr.of _ 1))) QE.out QC.out QD.out (Nat.le_trans (Nat.le_trans hbx.size hgrow5.size) (Below.refl w5.heap.size w5).drew.size) ?_; intro v9 w9 hown9 hgrow9; have hby := (Below.refl w5.heap.size w5).drew)
            | (have hpq := hown5; clear hpq; refine step_append_own1 rfl (.tmp 44) (.tmp 46) _ (by rfl) wn.heap.size 54 i0 _ 2 16 Try.underlying30 hi hz0 hz1 hz2 rfl (by decide) _ _ _ (by rfl) (hown5.alloc _) ⟨w5.heap.size, 0, none⟩ 1 1 (pcells (p1, p2)) (by rfl) (by rfl) (World.news_of_block (cs := (pcells (p1, p2)).toArray) (t := 54) (fr := (0, 0)) (heap_alloc_new w5 _)) QE.out QC.out QD.out (Nat.le_trans (Nat.le_trans hbx.size hgrow5.size) (Go.Joins.below_alloc1 w5 _).size) ?_; intro v9 w9 hown9 hgrow9; have hby := (Go.Joins.below_alloc1 w5 (.cells #[.int .i64 p1, .int .i64 p2] 54)))
            | (have hpq := hown5; clear hpq; refine step_append_own1 rfl (.tmp 44) (.tmp 46) _ (by rfl) wn.heap.size 54 i0 _ 2 16 Try.underlying30 hi hz0 hz1 hz2 rfl (by decide) _ _ _ (by rfl) (hown5.alloc _).drew ⟨w5.heap.size, 0, none⟩ 1 1 (pcells (p1, p2)) (by rfl) (by rfl) (World.news_of_block (cs := (pcells (p1, p2)).toArray) (t := 54) (fr := (0, 0)) (heap_alloc_new w5 _)) QE.out QC.out QD.out (Nat.le_trans (Nat.le_trans hbx.size hgrow5.size) (Go.Joins.below_alloc1 w5 _).drew.size) ?_; intro v9 w9 hown9 hgrow9; have hby := (Go.Joins.below_alloc1 w5 (.cells #[.int .i64 p1, .int .i64 p2] 54)).drew)
            | (refine step_append_own1 rfl (.tmp 42) (.tmp 43) _ (by rfl) wn.heap.size 54 i0 _ 2 16 Try.underlying30 hi hz0 hz1 hz2 rfl (by decide) _ _ _ (by rfl) HSA.out.2 ⟨pg, 0, none⟩ ps.length pc (pairs ps) (by rfl) (pairs_length ps) (HS4.out _ HSA.out.1) HON.out QA.out QB.out HSA.out.1.size ?_; intro v5 w5 hown5 hgrow5; have hbx := HSA.out.1; have hq5 : ∀ q, (Value.slice (some (⟨wn.heap.size, 0, none⟩ : Addr)) 0 0).ownBlock = some q → wn.heap.size ≤ q := (fun q hq => by simp [Value.ownBlock] at hq; omega))
            | (refine step_append_own1 rfl (.tmp 42) (.tmp 43) _ (by rfl) wn.heap.size 54 i0 _ 2 16 Try.underlying30 hi hz0 hz1 hz2 rfl (by decide) _ _ _ (by rfl) HSB.out.2.1 ⟨pg, 0, none⟩ ps.length pc (pairs ps) (by rfl) (pairs_length ps) (HS4.out _ HSB.out.1) HON.out QA.out QB.out HSB.out.1.size ?_; intro v5 w5 hown5 hgrow5; have hbx := HSB.out.1; have hq5 : ∀ q, (Value.slice (some (⟨wn.heap.size, 0, none⟩ : Addr)) 0 0).ownBlock = some q → wn.heap.size ≤ q := (fun q hq => by simp [Value.ownBlock] at hq; omega); have hp5 : RowIs w5 (wn.heap.size + 1) 54 [.int .i64 p1, .int .i64 p2] := (HSB.out.2.2).grown hgrow5 (by simp [Value.ownBlock]))
            | (refine step_append_own1 rfl (.tmp 42) (.tmp 43) _ (by rfl) wn.heap.size 54 i0 _ 2 16 Try.underlying30 hi hz0 hz1 hz2 rfl (by decide) _ _ _ (by rfl) HSC.out.2.1 ⟨pg, 0, none⟩ ps.length pc (pairs ps) (by rfl) (pairs_length ps) (HS4.out _ HSC.out.1) HON.out QA.out QB.out HSC.out.1.size ?_; intro v5 w5 hown5 hgrow5; have hbx := HSC.out.1; have hq5 : ∀ q, (Value.slice (some (⟨wn.heap.size + 1, 0, none⟩ : Addr)) 0 0).ownBlock = some q → wn.heap.size ≤ q := (fun q hq => by simp [Value.ownBlock] at hq; omega); have hp5 : RowIs w5 (wn.heap.size) 54 [.int .i64 p1, .int .i64 p2] := (HSC.out.2.2).grown hgrow5 (by simp [Value.ownBlock])))
        all_goals
          have hb9 : Below wr.heap.size wr w9 := by
            have h1 := HBn.out.trans (hbx.mono HBn.out.size)
            have h2 := h1.grown hgrow5 h1.size (fun q hq => Nat.le_trans (Nat.le_of_lt hwnlt) (hq5 q hq))
            have h3 := h2.trans (hby.mono h2.size)
            exact h3.grown hgrow9 h3.size (fun q hq => by have := (hown5.lt q hq).1; omega)
          have hown9' : w9.ownsRow wn.heap.size 54 2 v9 (ps ++ [(p1, p2)]).length (pairs (ps ++ [(p1, p2)])) := by
            rw [List.nil_append, ← pairs_snoc, Nat.zero_add] at hown9
            simpa using hown9
          have hr9 : RowIs w9 wr.heap.size 54 [.int .i64 p1, .int .i64 p2] := HK9.out _ _ _ _ _ hown5 (HK5.out _ _ _ hbx hgrow5 hq5) _ hby hgrow9
          obtain ⟨g9, c9, rfl⟩ := Go.Joins.ownsRow_form hown9' (by simp)
          have HB9 := Lib.hid hb9
          have HO9 := Lib.hid hown9'
          have q0 := hr9.cell (j := 0) rfl
          have q1 := hr9.cell (j := 1) rfl
          have HBX9 := Lib.hid ((BX1.out.below (HX1.out)).below hb9)
          have cY9 := HBX9.out.cell (j := 0) rfl
          clear hown5 hgrow5 hown9 hgrow9 hbx hby hq5 hb9 hown9' hr9 e0 e1 cY
          go_wp2_with fail
          refine (HLY.out _ (HSr.out.below HB9.out) (HYr.out.below HB9.out)).mono ?_
          rintro e w10 ⟨ad2, cp2, rfl, ho2, hb2⟩
          have hle9 : B ≤ w9.heap.size := Nat.le_trans HBB.out (Nat.le_trans HBW.out.size HB9.out.size)
          have hle10 : B ≤ w10.heap.size := Nat.le_trans hle9 hb2.size
          have hlen : (ps ++ [(p1, p2)]).length = ps.length + 1 := by simp
          have hos : w10.ownsRow B 9 1 (.slice ad2 s2.length cp2) s2.length (strs s2) := by rw [HLR.out]; exact World.ownsRow.mono ho2 hle9
          have hop : w10.ownsRow B 54 2 (.slice (some ⟨g9, 0, none⟩) (ps ++ [(p1, p2)]).length c9) (ps ++ [(p1, p2)]).length (pairs (ps ++ [(p1, p2)])) := World.ownsRow.mono (own_below HO9.out hb2) HBwn.out
          have hcall := HIH.out ad2 cp2 s2 g9 c9 (ps ++ [(p1, p2)]) w10 HPG.out hlen hle10 hos hop ((HBr.out.below HB9.out).below hb2)
          rw [HLR.out, hlen] at hcall
          have HCALL := Lib.hid hcall
          have HB10 := Lib.hid (HBW.out.trans ((HB9.out.trans (hb2.mono HB9.out.size)).mono HBW.out.size))
          have HB10r := Lib.hid (HX1.out.trans ((HB9.out.trans (hb2.mono HB9.out.size)).mono HX1.out.size))
          clear hle9 hle10 hlen hos hop hcall ho2 hb2 q0 q1 cY9
          go_wp2_with fail
          refine HCALL.out.mono ?_
          intro e w11 hfo
          obtain ⟨L, hL⟩ : ∃ L, L = leaves rest s2 (ps ++ [(p1, p2)]) := ⟨_, rfl⟩
          rw [← hL] at hfo HNO
          clear hL HCALL
          cases L with
          | nil =>
            obtain ⟨qa, qc, ta, tc, rfl, op, os, hb3⟩ := hfo
            have HB11 := Lib.hid (HB10r.out.trans (hb3.mono HB10r.out.size))
            clear op os hb3
            simp only [firstL]
            go_wp2_with fail
            go_roundw
            case rel => exact ⟨i + 1, by omega, by go_num, HNO, HB11.out⟩
            case measure => simp [intOf]; omega
          | cons l L =>
            have HFIN : Hid (firstL (leaves (ys :: rest) s ps) = (l, true)) := Lib.hid (by
              obtain ⟨r, hr⟩ := HPRE.out
              rw [hr, HNO.out]; rfl)
            obtain ⟨qa, qc, ta, tc, rfl, op, os, hb3⟩ := hfo
            simp only [firstL] at op os
            have HOP := Lib.hid op
            have HOS := Lib.hid os
            have HB11 := Lib.hid (HB10.out.trans (hb3.mono HB10.out.size))
            clear op os hb3
            simp only [firstL]
            go_wp2_with fail
            go_ret3
            rw [HFIN.out]
            exact ⟨_, _, _, _, rfl, HOP.out, HOS.out, HB11.out⟩
      · obtain rfl : i = pl.length := by omega
        have HFIN : Hid (firstL (leaves (ys :: rest) s ps) = (([], []), false)) := Lib.hid (by rw [← HALL.out, hno.out]; rfl)
        have HBR := Lib.hid (HB1.out.trans (hbel.mono HB1.out.size))
        clear hbel hno
        rw [HFIN.out]
        go_wp2_with fail
        go_ret3
        have o1 := own_newP wr B (by have := HBB.out; have := HBR.out.size; omega)
        have o2 : ((wr.alloc (.cells #[] 54)).alloc (.cells #[] 9)).ownsRow B 9 1 (.slice (some ⟨wr.heap.size + 1, 0, none⟩) 0 0) 0 [] := RowIs.owns (by have := RowIs.new (wr.alloc (.cells #[] 54)) 9 ([] : List Value); simpa using this) (n := 0) (sz := 1) rfl (by unfold maxLen; omega) (by have := HBB.out; have := HBR.out.size; omega)
        rw [HFIN.out]
        exact ⟨_, _, _, _, rfl, o1.alloc _, o2, (HBR.out.alloc HBR.out.size _).alloc (by have := HBR.out.size; simp; omega) _⟩
end Go.Proofs.Ytenedmkjbmbapaa
