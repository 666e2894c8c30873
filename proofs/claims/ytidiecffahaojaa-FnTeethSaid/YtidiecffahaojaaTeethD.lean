/- AreEven: both sides compute one value. -/
import Derived.Test.YtidiecffahaojaaTeethB
import Derived.Deep.RegionHeld3
import Derived.Deep.AppendLies
namespace Go.Proofs.Ytidiecffahaojaa
open Go.RowKit

/-- the distance ahead of number i -/
def dist (zs : List Int) (i : Nat) : Int := zs.getD i 0 - zs.getD (i - 1) 0
def minTo (zs : List Int) : Nat → Int
  | 0 => dist zs 1
  | k + 1 => if k = 0 then dist zs 1 else min (minTo zs k) (dist zs k)
def maxTo (zs : List Int) : Nat → Int
  | 0 => dist zs 1
  | k + 1 => if k = 0 then dist zs 1 else max (maxTo zs k) (dist zs k)
def evenF (zs : List Int) : Bool × Bool := if holesB zs = true then (decide (maxTo zs zs.length - minTo zs zs.length ≤ 10), true) else (false, false)
theorem dist_bd {zs : List Int} (q : Holes zs) {k : Nat} (hk : 0 < k) (hl : k < zs.length) : 1 ≤ dist zs k ∧ dist zs k ≤ 9999 := by
  have a1 := q.asc (k - 1) k (by omega) hl
  have a2 := q.lo (k - 1) (by omega)
  have a3 := q.hi k hl
  unfold dist; omega
theorem minmax_bd {zs : List Int} (q : Holes zs) : ∀ k, k ≤ zs.length → (1 ≤ minTo zs k ∧ minTo zs k ≤ 9999) ∧ (1 ≤ maxTo zs k ∧ maxTo zs k ≤ 9999) := by
  intro k
  have h1 := dist_bd q (show 0 < 1 by omega) (by have := q.two; omega)
  induction k with
  | zero => intro _; exact ⟨h1, h1⟩
  | succ k ih =>
    intro hk
    rw [minTo, maxTo]
    by_cases h0 : k = 0
    · rw [if_pos h0, if_pos h0]; exact ⟨h1, h1⟩
    · rw [if_neg h0, if_neg h0]
      have h2 := ih (by omega)
      have h3 := dist_bd q (show 0 < k by omega) (by omega)
      omega
theorem minTo_succ {zs : List Int} {k : Nat} (hk : 1 ≤ k) : minTo zs (k + 1) = min (minTo zs k) (dist zs k) := by rw [minTo, if_neg (by omega)]
theorem maxTo_succ {zs : List Int} {k : Nat} (hk : 1 ≤ k) : maxTo zs (k + 1) = max (maxTo zs k) (dist zs k) := by rw [maxTo, if_neg (by omega)]

set_option maxHeartbeats 2000000 in
theorem specEven_any (a : Option Addr) (cap : Nat) (zs : List Int) (w : World) (hm : zs.length ≤ maxLen) (hr : Reads w a (ints zs)) :
    Calls Try.prog 19 #[.slice a zs.length cap] w fun e w' => e = .returned (.tuple #[.bool (evenF zs).1, .bool (evenF zs).2]) ∧ Dr w w' := by
  have hH := l5Holes_any a cap zs w hm hr
  unfold maxLen at hm
  cases hh : holesB zs
  · rw [hh] at hH
    have HH := Lib.hid hH
    rw [show evenF zs = (false, false) by simp [evenF, hh]]
    clear hH hh hr
    go_enter Try.func19, Try.ntmps19
    go_wp2_with (first | (go_at_call 41; refine (HH.out).mono ?_; rintro e w' ⟨rfl, n, rfl⟩))
    go_ret2
    exact ⟨rfl, Dr.of _ _⟩
  · rw [hh] at hH
    have q := holes_of hh
    have HQ := Lib.hid q
    have h2l := q.two
    have h2f := q.forty
    rw [show evenF zs = (decide (maxTo zs zs.length - minTo zs zs.length ≤ 10), true) by simp [evenF, hh]]
    have HR := Lib.hid hr
    have hd1 := dist_bd q (show 0 < 1 by omega) (by omega)
    rcases hr with h0 | ⟨b, off, rfl, hb, hc⟩
    · simp [ints] at h0; subst h0; simp at h2l
    have HH := Lib.hid hH
    have hc0 := hc 0 _ (ints_get (show 0 < zs.length by omega))
    have hc1 := hc 1 _ (ints_get (show 1 < zs.length by omega))
    rw [Nat.add_zero] at hc0
    have hD : dist zs 1 = zs[1] - zs[0] := by rw [dist, getD_of (show 1 < zs.length by omega), getD_of (show 1 - 1 < zs.length by omega)]
    rw [hD] at hd1
    obtain ⟨hd2, hd3⟩ := hd1
    have HD := Lib.hid hD
    clear hH hh hD hc q
    go_enter Try.func19, Try.ntmps19
    go_wp2_with (first | (go_at_call 41; refine (HH.out).mono ?_; rintro e w' ⟨rfl, n, rfl⟩))
    go_quiet (fail)
    go_wp2
    go_loopw [4, 5, 6] (fun s t i wr => ∃ k : Nat, 1 ≤ k ∧ k ≤ zs.length ∧ i = .int .i64 k ∧ s = .int .i64 (minTo zs k) ∧ t = .int .i64 (maxTo zs k) ∧ Dr w wr) (fun _ _ i _ => zs.length - (intOf i).toNat)
    case atStart => exact ⟨1, by omega, by omega, rfl, by rw [minTo, if_pos rfl, HD.out], by rw [maxTo, if_pos rfl, HD.out], (Dr.of _ _).more _⟩
    case round =>
      obtain ⟨k, hk1, hk, rfl, rfl, rfl, hdr⟩ := hrel
      have hbt := minmax_bd HQ.out k hk
      obtain ⟨⟨m1, m2⟩, m3, m4⟩ := hbt
      clear hc0 hc1
      by_cases hlt : k < zs.length
      · rcases HR.out.dr hdr with h0 | ⟨b2, off2, he, hb2, hc⟩
        · simp [ints] at h0; subst h0; simp at hlt
        simp only [Option.some.injEq, Addr.mk.injEq, and_true] at he
        obtain ⟨rfl, rfl⟩ := he
        have hk2 : k - 1 < zs.length := by omega
        have hck := hc k _ (ints_get hlt)
        have hck2 := hc (k - 1) _ (ints_get hk2)
        have hbd := dist_bd HQ.out (show 0 < k by omega) hlt
        have hma : dist zs k = zs[k] - zs[k - 1] := by rw [dist, getD_of hlt, getD_of hk2]
        rw [hma] at hbd
        obtain ⟨q1, q2⟩ := hbd
        have HMA := Lib.hid hma
        clear hc hma
        go_wp2_with fail
        go_quiet ((go_at_call 45; exact quiet_same (l1Least_any _ _ _)))
        have k1 := cell_more hck nq
        have k2 := cell_more hck2 nq
        have e1 := hdr.more nq
        clear hck hck2 hdr
        generalize wr.drewN nq = w2 at *
        go_wp2_with fail
        go_quiet ((go_at_call 46; exact quiet_same (l1Most_any _ _ _)))
        go_wp2
        go_roundw
        case rel => exact ⟨k + 1, by omega, by omega, by go_num, by rw [minTo_succ hk1, HMA.out], by rw [maxTo_succ hk1, HMA.out], e1.more _⟩
        case measure => simp [intOf]; omega
      · obtain rfl : k = zs.length := by omega
        go_wp2
        go_ret2
        exact ⟨rfl, hdr⟩
def maxOf (l : List Int) : Nat → Int
  | 0 => l.getD 0 0
  | k + 1 => if k = 0 then l.getD 0 0 else max (maxOf l k) (l.getD k 0)
def minOf (l : List Int) : Nat → Int
  | 0 => l.getD 0 0
  | k + 1 => if k = 0 then l.getD 0 0 else min (minOf l k) (l.getD k 0)
theorem maxOf_succ {l : List Int} {k : Nat} (hk : 1 ≤ k) : maxOf l (k + 1) = max (maxOf l k) (l.getD k 0) := by rw [maxOf, if_neg (by omega)]
theorem minOf_succ {l : List Int} {k : Nat} (hk : 1 ≤ k) : minOf l (k + 1) = min (minOf l k) (l.getD k 0) := by rw [minOf, if_neg (by omega)]
set_option maxHeartbeats 400000 in
theorem slicesMax_any (a : Option Addr) (cap : Nat) (zs : List Int) (w : World) (h0 : 0 < zs.length) (hm : zs.length ≤ maxLen) (hr : Reads w a (ints zs)) :
    Calls Try.prog 43 #[.slice a zs.length cap] w fun e w' => e = .returned (.int .i64 (maxOf zs zs.length)) ∧ w = w' := by
  unfold maxLen at hm
  rcases hr with hn | ⟨b, off, rfl, hb, hc⟩
  · simp [ints] at hn; subst hn; simp at h0
  have HC := Lib.hid hc
  have hc0 := hc 0 _ (ints_get h0)
  rw [Nat.add_zero] at hc0
  have H1 := Lib.hid (show maxOf zs 1 = zs[0] by rw [maxOf, if_pos rfl, List.getD_eq_getElem?_getD, List.getElem?_eq_getElem h0]; rfl)
  clear hc
  go_enter Try.func43, Try.ntmps43
  go_wp2
  go_loop [3, 4] (fun t i => ∃ k : Nat, 1 ≤ k ∧ k ≤ zs.length ∧ i = .int .i64 k ∧ t = .int .i64 (maxOf zs k)) (fun _ i => zs.length - (intOf i).toNat)
  case atStart => exact ⟨1, by omega, by omega, rfl, by rw [H1.out]⟩
  case round =>
    obtain ⟨k, hk1, hk, rfl, rfl⟩ := hrel
    by_cases hlt : k < zs.length
    · have hck := HC.out k _ (ints_get hlt)
      have HS := Lib.hid (show maxOf zs (k + 1) = max (maxOf zs k) zs[k] by rw [maxOf_succ hk1, List.getD_eq_getElem?_getD, List.getElem?_eq_getElem hlt]; rfl)
      clear hc0
      go_wp2
      all_goals
        go_round
        case rel => exact ⟨k + 1, by omega, by omega, by go_num, by rw [HS.out]; exact int_eq (by omega)⟩
        case measure => simp [intOf]; omega
    · obtain rfl : k = zs.length := by omega
      go_wp2
      go_ret
      exact ⟨rfl, rfl⟩
set_option maxHeartbeats 400000 in
theorem slicesMin_any (a : Option Addr) (cap : Nat) (zs : List Int) (w : World) (h0 : 0 < zs.length) (hm : zs.length ≤ maxLen) (hr : Reads w a (ints zs)) :
    Calls Try.prog 44 #[.slice a zs.length cap] w fun e w' => e = .returned (.int .i64 (minOf zs zs.length)) ∧ w = w' := by
  unfold maxLen at hm
  rcases hr with hn | ⟨b, off, rfl, hb, hc⟩
  · simp [ints] at hn; subst hn; simp at h0
  have HC := Lib.hid hc
  have hc0 := hc 0 _ (ints_get h0)
  rw [Nat.add_zero] at hc0
  have H1 := Lib.hid (show minOf zs 1 = zs[0] by rw [minOf, if_pos rfl, List.getD_eq_getElem?_getD, List.getElem?_eq_getElem h0]; rfl)
  clear hc
  go_enter Try.func44, Try.ntmps44
  go_wp2
  go_loop [3, 4] (fun t i => ∃ k : Nat, 1 ≤ k ∧ k ≤ zs.length ∧ i = .int .i64 k ∧ t = .int .i64 (minOf zs k)) (fun _ i => zs.length - (intOf i).toNat)
  case atStart => exact ⟨1, by omega, by omega, rfl, by rw [H1.out]⟩
  case round =>
    obtain ⟨k, hk1, hk, rfl, rfl⟩ := hrel
    by_cases hlt : k < zs.length
    · have hck := HC.out k _ (ints_get hlt)
      have HS := Lib.hid (show minOf zs (k + 1) = min (minOf zs k) zs[k] by rw [minOf_succ hk1, List.getD_eq_getElem?_getD, List.getElem?_eq_getElem hlt]; rfl)
      clear hc0
      go_wp2
      all_goals
        go_round
        case rel => exact ⟨k + 1, by omega, by omega, by go_num, by rw [HS.out]; exact int_eq (by omega)⟩
        case measure => simp [intOf]; omega
    · obtain rfl : k = zs.length := by omega
      go_wp2
      go_ret
      exact ⟨rfl, rfl⟩
def dists (zs : List Int) (k : Nat) : List Int := (List.range (k - 1)).map fun (i : Nat) => dist zs (i + 1)
theorem dists_len (zs : List Int) (k : Nat) : (dists zs k).length = k - 1 := by simp [dists]
theorem dists_succ (zs : List Int) {k : Nat} (hk : 1 ≤ k) : ints (dists zs (k + 1)) = ints (dists zs k) ++ [Value.int .i64 (dist zs k)] := by
  obtain ⟨j, rfl⟩ : ∃ j, k = j + 1 := ⟨k - 1, by omega⟩
  simp [dists, ints, List.range_succ]
theorem dists_max (zs : List Int) (n : Nat) : ∀ k, 1 ≤ k → k + 1 ≤ n → maxOf (dists zs n) k = maxTo zs (k + 1) := by
  have hg : ∀ i, i + 1 < n → (dists zs n).getD i 0 = dist zs (i + 1) := fun i hi => by
    simp [dists, List.getD, List.getElem?_range (show i < n - 1 by omega)]
  intro k h1
  induction k with
  | zero => omega
  | succ k ih =>
    intro hk
    by_cases h0 : k = 0
    · subst h0
      rw [maxOf, if_pos rfl, maxTo_succ (by omega), hg 0 (by omega), maxTo, if_pos rfl, Nat.zero_add]; omega
    · rw [maxOf, if_neg h0, ih (by omega) (by omega), maxTo_succ (show 1 ≤ k + 1 by omega), hg k (by omega)]
theorem dists_min (zs : List Int) (n : Nat) : ∀ k, 1 ≤ k → k + 1 ≤ n → minOf (dists zs n) k = minTo zs (k + 1) := by
  have hg : ∀ i, i + 1 < n → (dists zs n).getD i 0 = dist zs (i + 1) := fun i hi => by
    simp [dists, List.getD, List.getElem?_range (show i < n - 1 by omega)]
  intro k h1
  induction k with
  | zero => omega
  | succ k ih =>
    intro hk
    by_cases h0 : k = 0
    · subst h0
      rw [minOf, if_pos rfl, minTo_succ (by omega), hg 0 (by omega), minTo, if_pos rfl, Nat.zero_add]; omega
    · rw [minOf, if_neg h0, ih (by omega) (by omega), minTo_succ (show 1 ≤ k + 1 by omega), hg k (by omega)]
set_option maxHeartbeats 2000000 in
theorem implEven_any (a : Option Addr) (cap : Nat) (zs : List Int) (w : World) (hm : zs.length ≤ maxLen) (hr : Reads w a (ints zs)) :
    Calls Try.prog 18 #[.slice a zs.length cap] w fun e w' => e = .returned (.tuple #[.bool (evenF zs).1, .bool (evenF zs).2]) ∧ Below w.heap.size w w' := by
  obtain ⟨i0, hi, hz0, hz1, hz2⟩ := info_parts info_int
  have hH := areHoles_any a cap zs w hm hr
  unfold maxLen at hm
  cases hh : holesB zs
  · rw [hh] at hH
    have HH := Lib.hid hH
    rw [show evenF zs = (false, false) by simp [evenF, hh]]
    clear hH hh hr
    go_enter Try.func18, Try.ntmps18
    go_wp2_with (first | (go_at_call 39; refine (HH.out).mono ?_; rintro e w' ⟨rfl, n, rfl⟩))
    go_ret2
    exact ⟨rfl, (Dr.of _ _).below _⟩
  · rw [hh] at hH
    have HH := Lib.hid hH
    have q := holes_of hh
    have HQ := Lib.hid q
    have h2l := q.two
    have h2f := q.forty
    rw [show evenF zs = (decide (maxTo zs zs.length - minTo zs zs.length ≤ 10), true) by simp [evenF, hh]]
    have HR := Lib.hid hr
    clear hH hh hr q
    go_enter Try.func18, Try.ntmps18
    go_wp2_with (first | (go_at_call 39; refine (HH.out).mono ?_; rintro e w' ⟨rfl, n, rfl⟩))
    go_loopw [4, 5] (fun v i wr => ∃ k : Nat, 1 ≤ k ∧ k ≤ zs.length ∧ i = .int .i64 k ∧ (∃ ad cp, v = .slice ad (k - 1) cp) ∧ wr.ownsRow w.heap.size 3 1 v (k - 1) (ints (dists zs k)) ∧ Below w.heap.size w wr) (fun _ i _ => zs.length - (intOf i).toNat)
    case atStart => exact ⟨1, by omega, by omega, rfl, ⟨none, 0, rfl⟩, World.ownsRow_nil _ _ _ _, (Dr.of _ _).below _⟩
    case round =>
      obtain ⟨k, hk1, hk, rfl, ⟨ad, cp, rfl⟩, hown, hbel⟩ := hrel
      by_cases hlt : k < zs.length
      · rcases HR.out with h0 | ⟨b, off, rfl, hb, hc0⟩
        · simp [ints] at h0; subst h0; simp at hlt
        have hc : ∀ j u, (ints zs)[j]? = some u → wr.cell? ⟨b, off + j, none⟩ = some u := fun j u hu => (hbel.cell (p := ⟨b, off + j, none⟩) hb).trans (hc0 j u hu)
        clear hc0
        have hk2 : k - 1 < zs.length := by omega
        have hck := hc k _ (ints_get hlt)
        have hck2 := hc (k - 1) _ (ints_get hk2)
        have hbd := dist_bd HQ.out (show 0 < k by omega) hlt
        have hma : dist zs k = zs[k] - zs[k - 1] := by rw [dist, getD_of hlt, getD_of hk2]
        rw [hma] at hbd
        obtain ⟨q1, q2⟩ := hbd
        have HMA := Lib.hid hma
        have HO := Lib.hid hown
        have HB := Lib.hid hbel
        clear hc hma hown hbel
        go_wp2_with fail
        have e1 : IntKind.i64.wrap ((k : Int) - 1) = (k : Int) - 1 := IntWalk.i64_in _ (by omega)
        have e2 : ((k : Int) - 1).toNat = k - 1 := by omega
        have e3 : IntKind.i64.wrap (zs[k] - zs[k - 1]) = zs[k] - zs[k - 1] := IntWalk.i64_in _ (by omega)
        have e4 : (1 : Int) ≤ (k : Int) := by omega
        have e5 : (k : Int) - 1 < (zs.length : Int) := by omega
        have hne : (Value.slice ad (k - 1) cp).ownBlock ≠ some b := fun hE => by have := (HO.out.lt b hE).1; omega
        have hsz : w.heap.size ≤ wr.heap.size := HB.out.size
        go_region_held3 (fun w' => w'.cell? ⟨b, off + k, none⟩ = some (.int .i64 zs[k]) ∧ w'.cell? ⟨b, off + (k - 1), none⟩ = some (.int .i64 zs[k - 1]))
          (first
            | go_keep
            | (go_split_ands
               refine ⟨?_, ?_⟩
               · (rw [hgrow.cell_far _ (by simp; omega) (Ne.symm hne)]; assumption)
               · (rw [hgrow.cell_far _ (by simp; omega) (Ne.symm hne)]; assumption)))
          ((refine step_append_lies _ (by rfl) _ _ _ (by rfl) w.heap.size 3 i0 _ 1 8 Try.underlying36 hi hz0 hz1 hz2 rfl (by omega) (.slice ad (k - 1) cp) (k - 1) (ints (dists zs k)) (by rfl) ((HO.out.alloc _).drew)
              ⟨wr.heap.size, 0, none⟩ 1 1 [.int .i64 (zs[k] - zs[k - 1])] (by rfl) (by rfl) (World.news_of_block (cs := #[.int .i64 (zs[k] - zs[k - 1])]) (t := 3) (fr := (0, 0)) (heap_alloc_new wr _)) (by simp [Value.oneCell'])
              (by omega) (by unfold maxLen; omega) (by omega) (by simp; omega) (wr.heap.size + 1) (by simp) ?_; intro gg cap w1 hown1 hgrow hat hlt1))
        clear e1 e2 e3 e4 e5
        have hown2 : w1.ownsRow w.heap.size 3 1 (.slice (some ⟨gg, 0, none⟩) k cap) k (ints (dists zs (k + 1))) := by
          have hk0 : k - 1 + 1 = k := by omega
          rw [dists_succ zs hk1, HMA.out]; rw [hk0] at hown1; exact hown1
        have hbel2 : Below w.heap.size w w1 := by
          refine ((HB.out.alloc hsz _).drew).grown hgrow ?_ ?_
          · simp; omega
          · intro q hq; exact (HO.out.lt q hq).1
        clear hown1 hgrow hat
        go_wp2
        go_roundw
        case rel => exact ⟨k + 1, by omega, by omega, by go_num, ⟨_, _, rfl⟩, hown2, hbel2⟩
        case measure => simp [intOf]; omega
      · obtain rfl : k = zs.length := by omega
        have hred : Reads wr ad (ints (dists zs zs.length)) := own_reads hown
        have hl0 : (dists zs zs.length).length = zs.length - 1 := dists_len _ _
        have hMx := fun w hr => slicesMax_any ad cp (dists zs zs.length) w (by omega) (by unfold maxLen; omega) hr
        have hMn := fun w hr => slicesMin_any ad cp (dists zs zs.length) w (by omega) (by unfold maxLen; omega) hr
        rw [hl0] at hMx hMn
        rw [dists_max zs zs.length _ (by omega) (by omega), show zs.length - 1 + 1 = zs.length from by omega] at hMx
        rw [dists_min zs zs.length _ (by omega) (by omega), show zs.length - 1 + 1 = zs.length from by omega] at hMn
        have HX := Lib.hid hMx
        have HN := Lib.hid hMn
        have HRD := Lib.hid hred
        have hbd := minmax_bd HQ.out zs.length (by omega)
        obtain ⟨⟨m1, m2⟩, m3, m4⟩ := hbd
        clear hMx hMn hred hown hl0
        go_wp2_with (first | (go_at_call 43; refine (HX.out _ HRD.out).mono ?_; rintro e w' ⟨rfl, rfl⟩) | (go_at_call 44; refine (HN.out _ HRD.out).mono ?_; rintro e w' ⟨rfl, rfl⟩))
        go_ret2
        exact ⟨rfl, hbel⟩
end Go.Proofs.Ytidiecffahaojaa
