/- The drawn arguments of the laws on numbers and seals; a byte of the code; bytes of a text. -/
import Derived.Test.YtbgfdhghhaoabaaDoorZeroT
import Derived.Test.YtbgfdhghhaoabaaDoorNumS
import Derived.Lib.ConvBytes
namespace Go.Proofs.YtbgfdhghhaoabaaDoor
open Go.RowKit

/-- 'c.among([]int{..})': the list is built first -/
theorem among_lit (g n : Nat) (zs : List Int) (w : World) (h : Cur w g n) (hn : n ≤ 1048570) (h1 : 2 ≤ zs.length) (h2 : zs.length ≤ 200) (os : Array Value) (ho : os = (ints zs).toArray) (k : Nat) (hk : k = zs.length) :
    Calls Tryd.prog 54 #[.pointer (some ⟨g, 0, none⟩), .slice (some ⟨w.heap.size, 0, none⟩) k k] (w.alloc (.cells os 3)) (Drawn w g (n + 2) (fun t => t ∈ zs)) := by
  subst ho; subst hk
  have hb := Go.Joins.below_alloc1 w (.cells (ints zs).toArray 3)
  have H0 := among_any g n zs.length (some ⟨w.heap.size, 0, none⟩) zs (w.alloc (.cells (ints zs).toArray 3)) (h.below hb) hn h1 h2 (RowIs.new w 3 (ints zs)).reads
    (fun p hp => by injection hp with hp; rw [← hp]; exact Nat.ne_of_gt h.lt)
  exact H0.mono fun _ _ ⟨t, e, ht, hc, hg⟩ => ⟨t, e, ht, hc, grownBy_trans (World.grownBy_alloc w _ (some g)) hg⟩
set_option maxHeartbeats 1000000 in
set_option maxRecDepth 100000 in
theorem drawFormat_any (a : Option Addr) (cap : Nat) (cs : List Int) (w : World) (hm : cs.length ≤ maxLen) (hr : Reads w a (bytesV cs)) (hz : ∀ z ∈ cs, 0 ≤ z ∧ z ≤ 255) :
    Calls Tryd.prog 31 #[.slice a cs.length cap] w fun e w' => ∃ x : Int, e = .returned (.int .i64 x) ∧ Below w.heap.size w w' := by
  have HC := Lib.hid (cur_newT cap hm hr hz)
  have HP := Lib.hid (fun w g n m h hn h1 h2 => pick_any g n m w h hn h1 h2)
  have HA := Lib.hid (fun w g n x h hn => among_lit g n [0, 1, -1, 10, 999999, -999999, 1000000, -1000000, x] w h hn (by simp) (by simp) #[.int .i64 0, .int .i64 1, .int .i64 (-1), .int .i64 10, .int .i64 999999, .int .i64 (-999999), .int .i64 1000000, .int .i64 (-1000000), .int .i64 x] rfl 9 rfl)
  have HB0 : Hid (∀ w', (w.alloc (.cells #[.slice a cs.length cap, .int .i64 0, .int .u64 0] 59)).grownBy w' (some w.heap.size) → Below w.heap.size w w') := Lib.hid (fun w' h => below_curT h)
  clear hr hz
  go_enter Tryd.func31, Tryd.ntmps31
  go_wp2_with fail
  generalize w.alloc (.cells #[.slice a cs.length cap, .int .i64 0, .int .u64 0] 59) = w0 at *
  refine (HP.out _ _ 0 1000 HC.out (by omega) (by omega) (by omega)).mono ?_
  rintro e w1 ⟨x, rfl, ⟨x1, x2⟩, hc1, hg1⟩
  have HC1 := Lib.hid hc1
  have HG1 := Lib.hid hg1
  clear hc1 hg1
  go_wp2_with fail
  refine (HA.out _ _ _ _ HC1.out (by omega)).mono ?_
  rintro e w2 ⟨y, rfl, hy, hc2, hg2⟩
  have HG2 := Lib.hid (grownBy_trans HG1.out hg2)
  clear hc2 hg2 hy
  go_wp2_with fail
  go_ret
  exact ⟨_, rfl, HB0.out _ HG2.out⟩
abbrev parseL : List ByteArray := [⟨#[]⟩, ⟨#[45]⟩, ⟨#[45, 48]⟩, ⟨#[48, 48]⟩, ⟨#[48, 49]⟩, ⟨#[45, 45, 49]⟩, ⟨#[49, 120]⟩, ⟨#[57, 57, 57, 57, 57, 57]⟩, ⟨#[49, 48, 48, 48, 48, 48, 48]⟩, ⟨#[45, 57, 57, 57, 57, 57, 57]⟩, ⟨#[49, 56, 52, 52, 54, 55, 52, 52, 48, 55, 51, 55, 48, 57, 53, 53, 49, 54, 49, 55]⟩]
theorem parseL_size : ∀ z ∈ parseL, z.size ≤ 20 := by decide +kernel
set_option maxHeartbeats 1000000 in
set_option maxRecDepth 100000 in
theorem drawParse_any (a : Option Addr) (cap : Nat) (cs : List Int) (w : World) (hm : cs.length ≤ maxLen) (hr : Reads w a (bytesV cs)) (hz : ∀ z ∈ cs, 0 ≤ z ∧ z ≤ 255) :
    Calls Tryd.prog 32 #[.slice a cs.length cap] w fun e w' => ∃ x : ByteArray, e = .returned (.string x) ∧ x.size ≤ 20 ∧ Below w.heap.size w w' := by
  have HC := Lib.hid (cur_newT cap hm hr hz)
  have HP := Lib.hid (fun w g n m h hn h1 h2 => pick_any g n m w h hn h1 h2)
  have HB1 := Lib.hid (fun w g n m h hn h1 h2 => one_any g n m w h hn h1 h2)
  have HN := Lib.hid (fun n h1 h2 w => l1Num_any n h1 h2 w)
  have HO := Lib.hid (fun w g n h hn => of_lit g n parseL w h hn (by decide) (by decide) #[.string ⟨#[]⟩, .string ⟨#[45]⟩, .string ⟨#[45, 48]⟩, .string ⟨#[48, 48]⟩, .string ⟨#[48, 49]⟩, .string ⟨#[45, 45, 49]⟩, .string ⟨#[49, 120]⟩, .string ⟨#[57, 57, 57, 57, 57, 57]⟩, .string ⟨#[49, 48, 48, 48, 48, 48, 48]⟩, .string ⟨#[45, 57, 57, 57, 57, 57, 57]⟩, .string ⟨#[49, 56, 52, 52, 54, 55, 52, 52, 48, 55, 51, 55, 48, 57, 53, 53, 49, 54, 49, 55]⟩] rfl 11 rfl)
  have HS := Lib.hid parseL_size
  have HB0 : Hid (∀ w', (w.alloc (.cells #[.slice a cs.length cap, .int .i64 0, .int .u64 0] 59)).grownBy w' (some w.heap.size) → Below w.heap.size w w') := Lib.hid (fun w' h => below_curT h)
  clear hr hz
  go_enter Tryd.func32, Tryd.ntmps32
  go_wp2_with fail
  generalize w.alloc (.cells #[.slice a cs.length cap, .int .i64 0, .int .u64 0] 59) = w0 at *
  refine (HB1.out _ _ 0 2 HC.out (by omega) (by omega) (by omega)).mono ?_
  rintro e w1 ⟨b, rfl, hc1, hg1⟩
  have HC1 := Lib.hid hc1
  have HG1 := Lib.hid hg1
  clear hc1 hg1
  cases b
  · go_wp2_with fail
    refine (HP.out _ _ _ 2000 HC1.out (by omega) (by omega) (by omega)).mono ?_
    rintro e w2 ⟨x, rfl, ⟨x1, x2⟩, hc2, hg2⟩
    have HG2 := Lib.hid (grownBy_trans HG1.out hg2)
    have HNS := Lib.hid (numF_size (n := x - 1000) (by omega) (by omega))
    clear hc2 hg2
    go_wp2_with fail
    refine (HN.out _ (by omega) (by omega) _).mono ?_
    rintro e w3 ⟨rfl, hd⟩
    have HB3 := Lib.hid ((HB0.out _ HG2.out).trans (hd.below _))
    clear hd
    go_wp2_with fail
    go_ret
    exact ⟨_, rfl, by have := HNS.out; omega, HB3.out⟩
  · go_wp2_with fail
    refine (HO.out _ _ _ HC1.out (by omega)).mono ?_
    rintro e w2 ⟨y, rfl, hy, hc2, hg2⟩
    have HY := Lib.hid (HS.out y hy)
    have HG2 := Lib.hid (grownBy_trans HG1.out hg2)
    clear hc2 hg2 hy
    go_wp2_with fail
    go_ret
    exact ⟨_, rfl, HY.out, HB0.out _ HG2.out⟩
set_option maxHeartbeats 1000000 in
set_option maxRecDepth 100000 in
theorem drawAppend_any (a : Option Addr) (cap : Nat) (cs : List Int) (w : World) (hm : cs.length ≤ maxLen) (hr : Reads w a (bytesV cs)) (hz : ∀ z ∈ cs, 0 ≤ z ∧ z ≤ 255) :
    Calls Tryd.prog 33 #[.slice a cs.length cap] w fun e w' => ∃ x : ByteArray, e = .returned (.string x) ∧ x.size ≤ 4000 ∧ Below w.heap.size w w' := by
  have HC := Lib.hid (cur_newT cap hm hr hz)
  have HA := Lib.hid (fun w g n h hn => any1_any g n w h hn)
  have HP := Lib.hid (fun w g n m h hn h1 h2 => pick_any g n m w h hn h1 h2)
  have HB1 := Lib.hid (fun w g n m h hn h1 h2 => one_any g n m w h hn h1 h2)
  have HB0 : Hid (∀ w', (w.alloc (.cells #[.slice a cs.length cap, .int .i64 0, .int .u64 0] 59)).grownBy w' (some w.heap.size) → Below w.heap.size w w') := Lib.hid (fun w' h => below_curT h)
  clear hr hz
  go_enter Tryd.func33, Tryd.ntmps33
  go_wp2_with fail
  generalize w.alloc (.cells #[.slice a cs.length cap, .int .i64 0, .int .u64 0] 59) = w0 at *
  refine (HB1.out _ _ 0 20 HC.out (by omega) (by omega) (by omega)).mono ?_
  rintro e w1 ⟨b, rfl, hc1, hg1⟩
  have HC1 := Lib.hid hc1
  have HG1 := Lib.hid hg1
  clear hc1 hg1
  cases b
  · go_wp2_with fail
    refine (HA.out _ _ _ HC1.out (by omega)).mono ?_
    rintro e w2 ⟨y, rfl, hy, hc2, hg2⟩
    have HY := Lib.hid hy
    have HG2 := Lib.hid (grownBy_trans HG1.out hg2)
    clear hc2 hg2 hy
    go_wp2_with fail
    go_ret
    exact ⟨_, rfl, by have := HY.out; omega, HB0.out _ HG2.out⟩
  · go_wp2_with fail
    refine (HP.out _ _ _ 10 HC1.out (by omega) (by omega) (by omega)).mono ?_
    rintro e w2 ⟨x, rfl, ⟨x1, x2⟩, hc2, hg2⟩
    obtain ⟨q, rfl⟩ : ∃ q : Nat, x = (q : Int) := ⟨x.toNat, by omega⟩
    have HB2 := Lib.hid (HB0.out _ (grownBy_trans HG1.out hg2))
    have hmk := make_zero2 3990 3990 q rfl (by omega) w2
    have hcv := conv_zero2 (3990 + q) w2
    have HZS := Lib.hid (zeroT_size (3990 + q))
    clear hc2 hg2
    go_wp2_with fail
    go_ret
    exact ⟨_, rfl, by rw [HZS.out]; omega, HB2.out.alloc HB2.out.size _⟩
def vAtF (cs : List Int) (k : Nat) : Int := if h : k < cs.length then cs[k] else ((k : Int) * 7 + (cs.length : Int)) % 256
theorem vAtF_bd {cs : List Int} (hz : ∀ z ∈ cs, 0 ≤ z ∧ z ≤ 255) (k : Nat) : 0 ≤ vAtF cs k ∧ vAtF cs k ≤ 255 := by
  unfold vAtF
  split
  · exact hz _ (List.getElem_mem _)
  · omega
set_option maxHeartbeats 400000 in
theorem vAt_any (a : Option Addr) (cap : Nat) (cs : List Int) (k : Nat) (i : Int) (hi : i = (k : Int)) (w : World) (hm : cs.length ≤ 65536) (hk : k ≤ 1000) (hr : Reads w a (bytesV cs)) (hz : ∀ z ∈ cs, 0 ≤ z ∧ z ≤ 255) :
    Calls Tryd.prog 34 #[.slice a cs.length cap, .int .i64 i] w fun e w' => e = .returned (.int .i64 (vAtF cs k)) ∧ w' = w := by
  subst hi
  by_cases hlt : k < cs.length
  · rcases hr with h0 | ⟨b, off, rfl, hb, hc⟩
    · simp [bytesV] at h0; subst h0; simp at hlt
    have hc1 := hc k _ (bytesV_get hlt)
    have hzk := hz _ (List.getElem_mem hlt)
    have HF := Lib.hid (show vAtF cs k = cs[k] by rw [vAtF, dif_pos hlt])
    generalize cs[k] = z at *
    obtain ⟨z1, z2⟩ := hzk
    clear hc hz
    go_enter Tryd.func34, Tryd.ntmps34
    go_wp2_with fail
    go_ret
    exact ⟨by rw [HF.out]; rfl, rfl⟩
  · have HF := Lib.hid (show vAtF cs k = ((k : Int) * 7 + (cs.length : Int)) % 256 by rw [vAtF, dif_neg hlt])
    clear hr hz
    go_enter Tryd.func34, Tryd.ntmps34
    go_wp2_with fail
    go_ret
    exact ⟨by rw [HF.out]; rfl, rfl⟩
/-- what '[]byte(s)' leaves -/
structure BytesNew (w w' : World) (s : ByteArray) : Prop where
  size : w'.heap.size = w.heap.size + 1
  cell : ∀ j (h : j < s.data.toList.length), w'.cell? ⟨w.heap.size, j, none⟩ = some (.int .u8 (s.data.toList[j].toNat : Int))
  free : ∀ j, j < s.data.toList.length → w'.frozen? ⟨w.heap.size, j, none⟩ = false
  below : Below w.heap.size w w'
theorem bytes_new (w : World) (s : ByteArray) : BytesNew w (Lib.bytesWorld w 5 s) s := by
  have hl : s.data.toList.length = s.size := by simp
  refine ⟨Lib.bytesWorld_size _ _ _, fun j h => ?_, fun j h => ?_, ⟨rfl, rfl, rfl, by rw [Lib.bytesWorld_size]; omega, fun k hk => Lib.bytesWorld_at_old _ _ _ _ hk⟩⟩
  · rw [Lib.bytesWorld_cell _ _ _ _ (by omega), List.getD_eq_getElem?_getD, List.getElem?_eq_getElem h]; rfl
  · have hn := Lib.bytesWorld_at_new w 5 s
    have hc : s.size ≤ (Lib.bytesCells w 5 s).size := by simp [Lib.bytesCells]
    simp [World.frozen?, hn]
    omega
theorem xor_byte {a b : Int} (ha : 0 ≤ a) (ha2 : a ≤ 255) (hb : 1 ≤ b) (hb2 : b ≤ 255) : ∃ c : UInt8, bits .xor .u8 a b = (c.toNat : Int) ∧ (c.toNat : Int) ≠ a := by
  obtain ⟨m, rfl⟩ : ∃ m : Nat, a = (m : Int) := ⟨a.toNat, by omega⟩
  obtain ⟨n, rfl⟩ : ∃ n : Nat, b = (n : Int) := ⟨b.toNat, by omega⟩
  have h1 : (BitVec.ofInt 8 (m : Int)).toNat = m := by rw [BitVec.ofInt_natCast, BitVec.toNat_ofNat]; exact Nat.mod_eq_of_lt (by omega)
  have h2 : (BitVec.ofInt 8 (n : Int)).toNat = n := by rw [BitVec.ofInt_natCast, BitVec.toNat_ofNat]; exact Nat.mod_eq_of_lt (by omega)
  have hx : m ^^^ n < 2 ^ 8 := Nat.xor_lt_two_pow (by omega) (by omega)
  have he : bits .xor .u8 (m : Int) (n : Int) = ((m ^^^ n : Nat) : Int) := by
    show IntKind.u8.wrap ((BitVec.ofInt 8 (m : Int) ^^^ BitVec.ofInt 8 (n : Int)).toNat : Int) = _
    rw [BitVec.toNat_xor, h1, h2]
    simp [IntKind.wrap, IntKind.bits, IntKind.signed]
    omega
  refine ⟨UInt8.ofNat (m ^^^ n), ?_, ?_⟩
  · rw [he, UInt8.toNat_ofNat']; omega
  · rw [UInt8.toNat_ofNat', Nat.mod_eq_of_lt hx]
    intro e
    have e2 : m ^^^ n = m := by omega
    have e3 : m ^^^ (m ^^^ n) = m ^^^ m := by rw [e2]
    rw [← Nat.xor_assoc, Nat.xor_self, Nat.zero_xor] at e3
    omega
end Go.Proofs.YtbgfdhghhaoabaaDoor
