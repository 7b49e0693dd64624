/-
  Walks: slices.Clone at bytes, Twin, Same, Check, May.
-/
import Derived.BigQuiet
import Derived.Deep.DeepCutAuto
import Derived.Deep.QuietTactic
import Derived.StillTailTactics
import Derived.Test.YtfcefhaaphieeaaGreatG00
import Derived.Test.YtfcefhaaphieeaaGreatG09
import Derived.Test.YtfcefhaaphieeaaGreatGMem
import Derived.Test.YtfcefhaaphieeaaGreatRows
namespace Go.Proofs.YtfcefhaaphieeaaGreat
open Go.RowKit

theorem pinfo_u8 : (Tryz.prog.info? 5).map (fun i => (i.zero, i.size, i.bytes)) = some (some (.int .u8 0), 1, 1) := by kernel_rfl

set_option maxHeartbeats 400000 in
theorem clone_any (A : Option Addr) (c : Nat) (l : List Nat) (w : World) (hl : Bs w A l) (hA : A = none → l = []) (hm : l.length ≤ 1000000000) :
    Calls Tryz.prog 13 #[.slice A l.length c] w fun e w' => ∃ A' c', e = .returned (.slice A' l.length c') ∧ w'.ownsRow w.heap.size 5 1 (.slice A' l.length c') l.length (u8s l) ∧ Below w.heap.size w w' := by
  obtain ⟨i0, hi0, hz0, hz1, hz2⟩ := info_parts pinfo_u8
  rcases A with _ | ad
  · obtain rfl := hA rfl
    have e1 := fun n => Lib.run_eql_slice_nil (P := Tryz.prog) w 22 5 none n c 0 0 Tryz.underlying22
    go_enter Tryz.func13, Tryz.ntmps13
    go_wp2_with fail
    go_ret
    exact ⟨none, 0, rfl, World.ownsRow_nil _ _ _ _, Below.refl _ _⟩
  · have e1 := Lib.run_eql_slice_nil (P := Tryz.prog) w 22 5 (some ad) l.length c 0 0 Tryz.underlying22
    have hl1 := (hl.alloc (.cells #[] 5)).1
    clear hA
    go_enter Tryz.func13, Tryz.ntmps13
    go_wp2_with (first
      | (at_builtin
         refine wpList_app _ rfl (.tmp 5) (.tmp 6) _ rfl w.heap.size 5 i0 _ 1 1 Tryz.underlying22 hi0 hz0 hz1 hz2 rfl (by omega) (.slice (some ⟨w.heap.size, 0, none⟩) 0 0) 0 [] rfl (by exact World.ownsRow_made w #[] 0 (Nat.le_refl _) (by omega) rfl) (some ad) l.length c (u8s l) rfl (by simp [u8s]) hl1 (by simp) (u8s_one l) l.length (by omega) (u8s l) rfl (by simp only [maxLen]; omega) (by omega) (by simp) ?_
         intro A1 c1 w1 hown hg hat))
    go_ret
    exact ⟨A1, c1, rfl, hown, ((Below.refl _ _).alloc (Nat.le_refl _) _).grown hg (by simp) (by simp [Value.ownBlock])⟩

set_option maxHeartbeats 400000 in
theorem twin_any (A : Option Addr) (c : Nat) (l : List Nat) (n : Int) (w : World) (hl : Bs w A l) (hA : A = none → l = []) (hm : l.length ≤ 1000000000) :
    Calls Tryz.prog 4 #[.agg #[.slice A l.length c, .int .i64 n]] w fun e w' => ∃ A' c', e = .returned (.agg #[.slice A' l.length c', .int .i64 n]) ∧ w'.ownsRow w.heap.size 5 1 (.slice A' l.length c') l.length (u8s l) ∧ Below w.heap.size w w' := by
  obtain ⟨i0, hi0, hz0, hz1, hz2⟩ := info_parts pinfo_u8
  have hn0 : A = none → l.length = 0 := fun h => by rw [hA h]; rfl
  have HA := Lib.hid hn0; clear hn0 hA
  have hl1 := ((hl.alloc (.cells #[.slice A l.length c, .int .i64 n] 24)).alloc (.cells #[.slice none 0 0, .int .i64 0] 24)).1
  go_enter Tryz.func4, Tryz.ntmps4
  go_wp2_with fail
  go_region_law (refine step_app _ rfl (.const (.slice none 0 0)) (.tmp 4) _ rfl w.heap.size 5 i0 _ 1 1 Tryz.underlying22 hi0 hz0 hz1 hz2 rfl (by omega) (.slice none 0 0) 0 [] rfl (World.ownsRow_nil _ _ _ _) A l.length c (u8s l) (by simp [Act.eval, Act.put]) (by simp [u8s]) (by exact hl1) HA.out (u8s_one l) l.length (by omega) (u8s l) rfl (by simp only [maxLen]; omega) (by omega) (by simp; omega) ?_; intro A3 c3 w3 hown3 hg3 hat3; have k1 : Blk w3 w.heap.size 24 #[.slice A l.length c, .int .i64 n] := (Blk.drew ((Blk.new' _ _ _ _ rfl).alloc _)).grown hg3 (by simp [Value.ownBlock]); have k2 : Blk w3 (w.heap.size + 1) 24 #[.slice none 0 0, .int .i64 0] := (Blk.drew (Blk.new' _ _ _ _ (by simp))).grown hg3 (by simp [Value.ownBlock]); have c1 : w3.cell? ⟨w.heap.size, 1, none⟩ = some (.int .i64 n) := k1.cell 1; have d0 : w3.cell? ⟨w.heap.size + 1, 0, none⟩ = some (.slice none 0 0) := k2.cell 0; have d1 : w3.cell? ⟨w.heap.size + 1, 1, none⟩ = some (.int .i64 0) := k2.cell 1; have q0 := k2.frozen 0; have q1 := k2.frozen 1; have hb3 : Below w.heap.size w w3 := ((((Below.refl _ _).alloc (Nat.le_refl _) _).alloc (by simp) _).drew).grown hg3 (by simp; omega) (by simp [Value.ownBlock]))
  all_goals
    go_wp2_with fail
    refine bodyPost_ret (v := .agg #[.slice A3 l.length c3, .int .i64 n]) (by simp [results, Tryz.results4, go_sem, d0, d1]) rfl ⟨A3, c3, rfl, ?_, ?_⟩
    · have hne := own_blk_ne hown3 k2 (by decide)
      exact own_far (own_far hown3 hne _) hne _
    · exact (hb3.setCell (by simp) _).setCell (by simp) _

/-- Two pens of the same bytes and bits are the same. -/
theorem same_yes (A B : Option Addr) (c d : Nat) (l : List Nat) (n : Int) (w : World) (ha : Bs w A l) (hA : A = none → l = []) (hb : Bs w B l) (hB : B = none → l = []) :
    Calls Tryz.prog 7 #[.agg #[.slice A l.length c, .int .i64 n], .agg #[.slice B l.length d, .int .i64 n]] w fun e w' => e = .returned (.bool true) ∧ Below w.heap.size w w' := by
  have e1 := conv_bytes (P := Tryz.prog) ((w.alloc (.cells #[.slice A l.length c, .int .i64 n] 24)).alloc (.cells #[.slice B l.length d, .int .i64 n] 24)) 22 5 Tryz.underlying22 Tryz.underlying5 9 Tryz.underlying9 A l c ((ha.alloc _).alloc _) hA
  have e2 := conv_bytes (P := Tryz.prog) ((w.alloc (.cells #[.slice A l.length c, .int .i64 n] 24)).alloc (.cells #[.slice B l.length d, .int .i64 n] 24)) 22 5 Tryz.underlying22 Tryz.underlying5 9 Tryz.underlying9 B l d ((hb.alloc _).alloc _) hB
  clear ha hA hb hB
  go_enter Tryz.func7, Tryz.ntmps7
  go_wp2_with fail
  go_ret
  exact ⟨rfl, ((Below.refl _ _).alloc (Nat.le_refl _) _).alloc (by simp) _⟩

/-- Its errors: 0, or 8. -/
def pchkE (l : List Nat) (n : Int) : Nat := if mayB l n then 0 else 8

theorem check_size (A : Option Addr) (c : Nat) (l : List Nat) (n : Int) (w : World) (hm : l.length ≤ 1000000000) (h1 : -9223372036854775808 ≤ n) (h2 : n ≤ 9223372036854775807)
    (h : n < 0 ∨ 8388608 < n ∨ (0 ≤ n ∧ n ≤ 8388608 ∧ (l.length : Int) ≠ (n + 7) / 8)) :
    Calls Tryz.prog 9 #[.agg #[.slice A l.length c, .int .i64 n]] w fun e w' => e = .returned (.int .i64 8) ∧ Below w.heap.size w w' := by
  by_cases ha : n < 0
  · clear h
    go_enter Tryz.func9, Tryz.ntmps9
    go_wp2_with fail
    go_ret
    exact ⟨rfl, (Below.refl _ _).alloc (Nat.le_refl _) _⟩
  · by_cases hb : 8388608 < n
    · clear h
      go_enter Tryz.func9, Tryz.ntmps9
      go_wp2_with fail
      go_ret
      exact ⟨rfl, (Below.refl _ _).alloc (Nat.le_refl _) _⟩
    · have hne : ((l.length : Int) != (n + 7) / 8) = true := by rw [bne_iff_ne]; omega
      clear h
      go_enter Tryz.func9, Tryz.ntmps9
      go_wp2_with fail
      go_ret
      exact ⟨rfl, (Below.refl _ _).alloc (Nat.le_refl _) _⟩

theorem check_full (A : Option Addr) (c : Nat) (l : List Nat) (n : Nat) (w : World) (h2 : n ≤ 8388608) (hn : l.length = (n + 7) / 8) (h8 : n % 8 = 0) :
    Calls Tryz.prog 9 #[.agg #[.slice A l.length c, .int .i64 n]] w fun e w' => e = .returned (.int .i64 0) ∧ Below w.heap.size w w' := by
  have hne : ((l.length : Int) != ((n : Int) + 7) / 8) = false := by rw [bne_eq_false_iff_eq]; omega
  have hz : ¬ (0 < (n : Int) % 8) := by omega
  have H := Lib.hid (And.intro hn h8)
  clear hn h8
  go_enter Tryz.func9, Tryz.ntmps9
  go_wp2_with fail
  go_ret
  exact ⟨rfl, (Below.refl _ _).alloc (Nat.le_refl _) _⟩

theorem check_over (A : Option Addr) (c : Nat) (l : List Nat) (n : Nat) (w : World) (hl : Bs w A l) (h2 : n ≤ 8388608) (hn : l.length = (n + 7) / 8) (h8 : n % 8 ≠ 0) :
    Calls Tryz.prog 9 #[.agg #[.slice A l.length c, .int .i64 n]] w fun e w' => e = .returned (.int .i64 (if nth l (l.length - 1) / 2 ^ (n % 8) = 0 then 0 else 8 : Nat)) ∧ Below w.heap.size w w' := by
  have hne : ((l.length : Int) != ((n : Int) + 7) / 8) = false := by rw [bne_eq_false_iff_eq]; omega
  have hz : 0 < (n : Int) % 8 := by omega
  have hlen : 0 < l.length := by omega
  have hlen2 : l.length ≤ 2000000 := by omega
  obtain ⟨b, off, rfl, hc, hb⟩ := hl.at_ (show l.length - 1 < l.length by omega)
  have hbl := cell_lt hc
  have hs := shr_le (nth l (l.length - 1)) (n % 8)
  have e1 : ((l.length : Int) - 1).toNat = l.length - 1 := by omega
  have H := Lib.hid (And.intro hn h8)
  clear hn h8
  by_cases hq : nth l (l.length - 1) / 2 ^ (n % 8) = 0
  · rw [if_pos hq]
    have hq' : ((nth l (l.length - 1) : Nat) : Int) / 2 ^ (n % 8) = 0 := by rw [cast_shr, hq]; rfl
    clear hs hq
    go_enter Tryz.func9, Tryz.ntmps9
    go_wp2_with fail
    go_ret
    exact ⟨rfl, (Below.refl _ _).alloc (Nat.le_refl _) _⟩
  · rw [if_neg hq]
    have hq' : 0 < ((nth l (l.length - 1) : Nat) : Int) / 2 ^ (n % 8) := by rw [cast_shr]; exact Int.natCast_pos.2 (Nat.pos_of_ne_zero hq)
    clear hs hq
    go_enter Tryz.func9, Tryz.ntmps9
    go_wp2_with fail
    go_ret
    exact ⟨rfl, (Below.refl _ _).alloc (Nat.le_refl _) _⟩

theorem chkE_size {l : List Nat} {n : Int} (h : ¬ (0 ≤ n ∧ n ≤ 8388608 ∧ (l.length : Int) = (n + 7) / 8)) : mayB l n = false := by
  unfold mayB
  rw [decide_eq_false_iff_not]
  exact fun h' => h ⟨h'.1, h'.2.1, h'.2.2.1⟩

theorem pcheck_any (A : Option Addr) (c : Nat) (l : List Nat) (n : Int) (w : World) (hl : Bs w A l) (hm : l.length ≤ 1000000000) (h1 : -9223372036854775808 ≤ n) (h2 : n ≤ 9223372036854775807) :
    Calls Tryz.prog 9 #[.agg #[.slice A l.length c, .int .i64 n]] w fun e w' => e = .returned (.int .i64 (pchkE l n)) ∧ Below w.heap.size w w' := by
  unfold pchkE
  by_cases h : 0 ≤ n ∧ n ≤ 8388608 ∧ (l.length : Int) = (n + 7) / 8
  · obtain ⟨h3, h4, h5⟩ := h
    obtain ⟨m, rfl⟩ := Int.eq_ofNat_of_zero_le h3
    by_cases h8 : m % 8 = 0
    · rw [mayB_full l m (by omega) (by omega) h8]
      exact check_full A c l m w (by omega) (by omega) h8
    · rw [mayB_over l hl.2 m (by omega) (by omega) h8]
      have := check_over A c l m w hl (by omega) (by omega) h8
      by_cases hq : nth l (l.length - 1) / 2 ^ (m % 8) = 0
      · rw [if_pos hq] at this
        rw [decide_eq_true hq]
        exact this
      · rw [if_neg hq] at this
        rw [decide_eq_false hq]
        exact this
  · rw [chkE_size h]
    exact check_size A c l n w hm h1 h2 (by omega)

theorem may_size (A : Option Addr) (c : Nat) (l : List Nat) (n : Int) (w : World) (hm : l.length ≤ 1000000000) (h1 : -9223372036854775808 ≤ n) (h2 : n ≤ 9223372036854775807)
    (h : n < 0 ∨ 8388608 < n ∨ (0 ≤ n ∧ n ≤ 8388608 ∧ (l.length : Int) ≠ (n + 7) / 8)) :
    Calls Tryz.prog 15 #[.agg #[.slice A l.length c, .int .i64 n]] w fun e w' => e = .returned (.bool false) ∧ Below w.heap.size w w' := by
  by_cases ha : n < 0
  · clear h
    go_enter Tryz.func15, Tryz.ntmps15
    go_wp2_with fail
    go_ret
    exact ⟨rfl, (Below.refl _ _).alloc (Nat.le_refl _) _⟩
  · by_cases hb : 8388608 < n
    · clear h
      go_enter Tryz.func15, Tryz.ntmps15
      go_wp2_with fail
      go_ret
      exact ⟨rfl, (Below.refl _ _).alloc (Nat.le_refl _) _⟩
    · have hne : ((l.length : Int) != (n + 7) / 8) = true := by rw [bne_iff_ne]; omega
      clear h
      go_enter Tryz.func15, Tryz.ntmps15
      go_wp2_with fail
      go_ret
      exact ⟨rfl, (Below.refl _ _).alloc (Nat.le_refl _) _⟩

set_option maxHeartbeats 400000 in
theorem may_bits (A : Option Addr) (c : Nat) (l : List Nat) (n : Nat) (w : World) (hl : Bs w A l) (h2 : n ≤ 8388608) (hn : l.length = (n + 7) / 8) :
    Calls Tryz.prog 15 #[.agg #[.slice A l.length c, .int .i64 n]] w fun e w' => e = .returned (.bool (mayB l n)) ∧ Below w.heap.size w w' := by
  have hne : ((l.length : Int) != ((n : Int) + 7) / 8) = false := by rw [bne_eq_false_iff_eq]; omega
  have hlen2 : l.length ≤ 2000000 := by omega
  have hn1 : n ≤ 8 * l.length := by omega
  have hn2 : 8 * l.length ≤ n + 7 := by omega
  have H := Lib.hid hn
  clear hn
  go_enter Tryz.func15, Tryz.ntmps15
  go_wp2_with fail
  have hl1 := hl.alloc (.cells #[.slice A l.length c, .int .i64 (n : Int)] 24)
  go_loopg [3] (8 * l.length - n) (fun k v wr => ∃ i : Nat, n ≤ i ∧ i ≤ 8 * l.length ∧ k = 8 * l.length - i ∧ v = .int .i64 i ∧ wr = w.alloc (.cells #[.slice A l.length c, .int .i64 (n : Int)] 24) ∧ ∀ j, n ≤ j → j < i → bitOf l j = 0)
  case atStart => exact ⟨n, by omega, by omega, by omega, rfl, rfl, fun j _ _ => by omega⟩
  case round =>
    obtain ⟨i, hi1, hi2, hk, rfl, rfl, hz⟩ := hrel
    by_cases hlt : i < 8 * l.length
    · go_wp2_with fail
      refine (bit_any A c l i _ hl1 hlt (by omega)).mono ?_
      rintro e w' ⟨rfl, rfl⟩
      have hb2 := bitOf_lt l i
      by_cases hb : bitOf l i = 0
      · have Hz := Lib.hid hz; clear hz
        have hbf : ((bitOf l i : Int) != 0) = false := by rw [hb]; rfl
        have Hb := Lib.hid hb; clear hb
        go_wp2_with fail
        go_roundg (8 * l.length - (i + 1))
        case measure => omega
        case rel =>
          exact ⟨i + 1, by omega, by omega, by omega, by go_num, rfl, fun j h1 h2 => by
            rcases Nat.lt_or_ge j i with h | h
            · exact Hz.out j h1 h
            · obtain rfl : j = i := by omega
              exact Hb.out⟩
      · have hm : mayB l n = false := by
          unfold mayB
          rw [decide_eq_false_iff_not]
          exact fun h' => hb (h'.2.2.2 i hlt (by simpa using hi1))
        have hbf : ((bitOf l i : Int) != 0) = true := by rw [bne_iff_ne]; omega
        have Hm := Lib.hid hm
        clear hz hb hm
        go_wp2_with fail
        go_ret
        exact ⟨ret_bool Hm.out.symm, (Below.refl _ _).alloc (Nat.le_refl _) _⟩
    · have hm : mayB l n = true := by
        unfold mayB
        rw [decide_eq_true_iff]
        have := H.out
        exact ⟨by omega, by omega, by omega, fun j h1 h2 => hz j (by simpa using h2) (by omega)⟩
      have Hm := Lib.hid hm
      clear hz hm
      go_wp2_with fail
      go_ret
      exact ⟨ret_bool Hm.out.symm, (Below.refl _ _).alloc (Nat.le_refl _) _⟩

theorem may_any (A : Option Addr) (c : Nat) (l : List Nat) (n : Int) (w : World) (hl : Bs w A l) (hm : l.length ≤ 1000000000) (h1 : -9223372036854775808 ≤ n) (h2 : n ≤ 9223372036854775807) :
    Calls Tryz.prog 15 #[.agg #[.slice A l.length c, .int .i64 n]] w fun e w' => e = .returned (.bool (mayB l n)) ∧ Below w.heap.size w w' := by
  by_cases h : 0 ≤ n ∧ n ≤ 8388608 ∧ (l.length : Int) = (n + 7) / 8
  · obtain ⟨h3, h4, h5⟩ := h
    obtain ⟨m, rfl⟩ := Int.eq_ofNat_of_zero_le h3
    exact may_bits A c l m w hl (by omega) (by omega)
  · rw [chkE_size h]
    exact may_size A c l n w hm h1 h2 (by omega)

end Go.Proofs.YtfcefhaaphieeaaGreat

/-
  Walks: a pen's bit.
-/
namespace Go.Proofs.YtfcefhaaphieeaaGreat
open Go.RowKit

/-- A pen under way: its struct in block g (of type t), its bytes a row of the call's own. -/
def PenAt (base : Nat) (w : World) (t : TypeId) (g : Nat) (l : List Nat) (n : Nat) : Prop :=
  ∃ A c, Blk w g t #[.slice A l.length c, .int .i64 (n : Int)] ∧ w.ownsRow base 5 1 (.slice A l.length c) l.length (u8s l)

/-- What the store of a bit does to a byte, in the walk's own spelling. -/
theorem bit_step (x v k : Nat) (hx : x < 256) (hk : k < 8) (h0 : x / 2 ^ k = 0) (hv : v < 4294967296) :
    bits BinOp.or IntKind.u8 (x : Int) (bits BinOp.and IntKind.u32 (v : Int) 1 % 256 * 2 ^ k % 256) = ((x + v % 2 * 2 ^ k : Nat) : Int) := by
  obtain ⟨h1, _⟩ := low_bits x hx k hk h0 (v % 2) (Nat.mod_lt _ (by omega))
  have hp : 2 ^ k ≤ 2 ^ 7 := pow2_le _ _ (by omega)
  have hlt : x < 2 ^ k := by
    rcases Nat.lt_or_ge x (2 ^ k) with h | h
    · exact h
    · have := Nat.div_pos h (Nat.two_pow_pos k); omega
  rw [and_u32_1 _ hv, mod_u8 _ (by omega), cast_shl, mod_u8 _ (by omega), or_u8 _ _ hx (by omega), or_disjoint _ _ _ hlt]

/-- The bytes in which the next bit has its place. -/
def roomL (l : List Nat) (n : Nat) : List Nat := if n % 8 = 0 then l ++ [0] else l
theorem roomL_spec {l : List Nat} {n : Nat} (h : Pen l n) : n / 8 < (roomL l n).length ∧ nth (roomL l n) (n / 8) / 2 ^ (n % 8) = 0 ∧ (∀ x ∈ roomL l n, x < 256) ∧
    ∀ b, setBit l n b = (roomL l n).set (n / 8) (nth (roomL l n) (n / 8) + b * 2 ^ (n % 8)) := by
  have hlen := h.len
  unfold roomL setBit
  by_cases h8 : n % 8 = 0
  · have hl : l.length = n / 8 := by omega
    simp only [if_pos h8]
    refine ⟨by simp; omega, ?_, ?_, fun b => ?_⟩
    · rw [← hl, nth_append_one]; simp
    · intro x hx
      rcases List.mem_append.1 hx with hx | hx
      · exact h.byte x hx
      · simp at hx; omega
    · rw [← hl, nth_append_one, h8]
      simp
  · simp only [if_neg h8]
    exact ⟨by omega, h.last h8, h.byte, by simp⟩
theorem pu8s_set (l : List Nat) (i x : Nat) : (u8s l).set i (.int .u8 (x : Int)) = u8s (l.set i x) := by simp [u8s, List.map_set]
theorem u8s_at (l : List Nat) (i : Nat) (h : i < l.length) : (u8s l)[i]? = some (.int .u8 ((nth l i : Nat) : Int)) := by simp [u8s, nth, List.getElem?_eq_getElem h]

set_option maxRecDepth 100000 in
set_option maxHeartbeats 1000000 in
theorem bit_put (base g : Nat) (l : List Nat) (n v : Nat) (w : World) (hp : PenAt base w 68 g l n) (hP : Pen l n) (hn : n ≤ 8388608) (hv : v < 4294967296) (hbase : base ≤ g) :
    Calls Tryz.prog 29 #[.pointer (some ⟨g, 0, none⟩), .int .u32 v] w fun e w' => e = .returned (.tuple #[]) ∧ PenAt base w' 68 g (setBit l n (v % 2)) (n + 1) ∧ Below base w w' := by
  obtain ⟨i0, hi0, hz0, hz1, hz2⟩ := info_parts pinfo_u8
  obtain ⟨A, c, hblk, hown⟩ := hp
  have hlen := hP.len
  have hgl := hblk.lt
  have hlm : l.length ≤ 2000000 := by omega
  have c0 : w.cell? ⟨g, 0, none⟩ = some (.slice A l.length c) := hblk.cell 0
  have c1 : w.cell? ⟨g, 1, none⟩ = some (.int .i64 (n : Int)) := hblk.cell 1
  have HL := Lib.hid hlen; clear hlen
  go_enter Tryz.func29, Tryz.ntmps29
  go_upto_if 10 with (fail)
  go_cut [] (fun wc => ∃ A c, Blk wc g 68 #[.slice A (roomL l n).length c, .int .i64 (n : Int)] ∧ wc.ownsRow base 5 1 (.slice A (roomL l n).length c) (roomL l n).length (u8s (roomL l n)) ∧ Below base w wc)
  case first =>
    by_cases h8 : n % 8 = 0
    · have hne := Lib.hid (own_blk_ne hown hblk (by decide))
      have f0 := hblk.frozen 0
      have f1 := hblk.frozen 1
      have ht : (((n : Int) % 8) == 0) = true := by rw [beq_iff_eq]; omega
      have H := Lib.hid h8
      clear h8
      go_wp2_with (at_builtin; refine wpList_app _ rfl (.tmp 16) (.tmp 17) _ rfl base 5 i0 _ 1 1 Tryz.underlying22 hi0 hz0 hz1 hz2 rfl (by omega) (.slice A l.length c) l.length (u8s l) rfl (by exact hown.alloc _) (some ⟨w.heap.size, 0, none⟩) 1 1 (u8s [0]) rfl rfl (by exact Sl.new _ _ _ _ rfl) (by simp) (u8s_one _) (l.length + 1) rfl (u8s (l ++ [0])) (u8s_append _ _) (by simp only [maxLen]; omega) (by omega) (by simp; omega) ?_; intro A3 c3 w3 hown3 hg3 hat3; have hblk3 : Blk w3 g 68 #[.slice A l.length c, .int .i64 (n : Int)] := (hblk.alloc _).grown hg3 (Ne.symm hne.out); have c30 : w3.cell? ⟨g, 0, none⟩ = some (.slice A l.length c) := hblk3.cell 0; have f30 := hblk3.frozen 0)
      go_meet
      have er : roomL l n = l ++ [0] := by unfold roomL; rw [if_pos H.out]
      have el : (roomL l n).length = l.length + 1 := by rw [er]; simp
      have hne3 := own_ne hat3 hne.out (by simp; omega)
      refine ⟨A3, c3, ?_, ?_, ?_⟩
      · rw [el]; exact hblk3.set_ 0 _
      · rw [el, er]; exact own_far hown3 hne3 _
      · exact (((Below.refl _ _).alloc (by omega) _).grown hg3 (by simp; omega) (own_row_ge hown)).setCell hbase _
    · have er : roomL l n = l := by unfold roomL; rw [if_neg h8]
      have ht : (((n : Int) % 8) == 0) = false := by rw [beq_eq_false_iff_ne]; omega
      have H := Lib.hid (And.intro h8 er)
      clear h8 er
      go_wp2_with fail
      go_meet
      rw [H.out.2]
      exact ⟨A, c, hblk, hown, Below.refl _ _⟩
  case rest =>
    obtain ⟨A3, c3, hblk3, hown3, hb3⟩ := hcut
    obtain ⟨r1, r2, r3, r4⟩ := roomL_spec hP
    obtain ⟨h, rfl, hh⟩ := own_at hown3 (by omega)
    have hhl := (hown3.lt h rfl).2
    have hx := nth_lt r3 (by omega) (n / 8)
    have hst := bit_step (nth (roomL l n) (n / 8)) v (n % 8) hx (by omega) r2 hv
    have hcell : wc.cell? ⟨h, n / 8, none⟩ = some (.int .u8 ((nth (roomL l n) (n / 8) : Nat) : Int)) := (hown3.cellAt (n / 8) (by omega)).trans (u8s_at _ _ r1)
    have hfr := hown3.frozenAt (n / 8)
    have hne := own_blk_ne hown3 hblk3 (by decide)
    have hgh : g ≠ h := fun e => hne (by rw [e]; rfl)
    have k0 : wc.cell? ⟨g, 0, none⟩ = some (.slice (some ⟨h, 0, none⟩) (roomL l n).length c3) := hblk3.cell 0
    have k1 : wc.cell? ⟨g, 1, none⟩ = some (.int .i64 (n : Int)) := hblk3.cell 1
    have q1 := hblk3.frozen 1
    have hgl3 := hblk3.lt
    have hR := r4 (v % 2)
    generalize hrl : roomL l n = L at *
    generalize hxx : nth L (n / 8) = x at *
    have H := Lib.hid (And.intro hst (And.intro r2 (And.intro hR (And.intro hxx hrl))))
    clear hst r2 hR hxx hrl c0 c1 r4 hne
    go_wp2_with fail
    go_region
    go_wp2_with fail
    go_end0
    obtain ⟨hst, r2, hR, hxx, hrl⟩ := H.out
    have el : (setBit l n (v % 2)).length = L.length := by rw [hR]; simp
    have e1 : ((n : Int) + 1) = ((n + 1 : Nat) : Int) := by omega
    rw [hst, e1]
    refine ⟨rfl, ⟨some ⟨h, 0, none⟩, c3, ?_, ?_⟩, ?_⟩
    · rw [el]
      exact Blk.drew ((hblk3.far (p := ⟨h, n / 8, none⟩) hgh _).set_ 1 _)
    · rw [el, hR, ← pu8s_set]
      exact own_drew (own_far (hown3.stored (n / 8) _).1 (fun e => hgh (by injection e with e; exact e.symm)) _)
    · exact ((hb3.setCell hh _).setCell hbase _).drew
end Go.Proofs.YtfcefhaaphieeaaGreat

/-
  Walks: Put, Align.
-/
namespace Go.Proofs.YtfcefhaaphieeaaGreat
open Go.RowKit

/-- What a pen's function answers: the pen or the empty one, and the error. -/
def PenRes (w w' : World) (e : Ending) (l : List Nat) (n E : Nat) : Prop :=
  Below w.heap.size w w' ∧ ∃ A c, e = .returned (.tuple #[.agg #[.slice A l.length c, .int .i64 (n : Int)], .int .i64 (E : Int)]) ∧ w'.ownsRow w.heap.size 5 1 (.slice A l.length c) l.length (u8s l)

theorem PenRes.none_ {w w' : World} {e : Ending} {E : Nat} (h : Below w.heap.size w w') (he : e = .returned (.tuple #[.agg #[.slice none 0 0, .int .i64 0], .int .i64 (E : Int)])) : PenRes w w' e [] 0 E :=
  ⟨h, none, 0, he, World.ownsRow_nil _ _ _ _⟩

set_option maxHeartbeats 1000000 in
theorem put_bad (A : Option Addr) (c : Nat) (l : List Nat) (n : Int) (v : Nat) (k : Int) (w : World) (hl : Bs w A l) (hm : l.length ≤ 1000000000) (h1 : -9223372036854775808 ≤ n) (h2 : n ≤ 9223372036854775807) (h : mayB l n = false) :
    Calls Tryz.prog 14 #[.agg #[.slice A l.length c, .int .i64 n], .int .u32 v, .int .i64 k] w fun e w' => PenRes w w' e [] 0 8 := by
  have hc := fun w hl => pcheck_any A c l n w hl hm h1 h2
  rw [show pchkE l n = 8 by unfold pchkE; rw [h]; rfl] at hc
  have HC := Lib.hid hc; clear hc h
  go_enter Tryz.func14, Tryz.ntmps14
  go_wp2_with fail
  refine (HC.out _ ((hl.alloc _).alloc _)).mono ?_
  rintro e w1 ⟨rfl, hb1⟩
  obtain ⟨b1, z1, z2, k1, k2⟩ := box2 hb1
  have c2 := Blk.cells k2
  have f2 := Blk.frozens k2
  have c1 := Blk.cells k1
  clear hb1
  go_wp2_with fail
  refine bodyPost_ret (v := .tuple #[.agg #[.slice none 0 0, .int .i64 0], .int .i64 8]) (by simp [results, Tryz.results14, go_sem, c2]) rfl (PenRes.none_ ?_ rfl)
  exact (b1.setCell (by simp) _).setCell (by simp) _

set_option maxHeartbeats 1000000 in
theorem put_unfit (A : Option Addr) (c : Nat) (l : List Nat) (n : Nat) (v : Nat) (k : Int) (w : World) (hl : Bs w A l) (hm : l.length ≤ 1000000000) (h2 : n ≤ 8388608) (h : mayB l n = true)
    (hv : v < 4294967296) (hk1 : -9223372036854775808 ≤ k) (hk2 : k ≤ 9223372036854775807) (hf : fitsB v k = false) :
    Calls Tryz.prog 14 #[.agg #[.slice A l.length c, .int .i64 n], .int .u32 v, .int .i64 k] w fun e w' => PenRes w w' e [] 0 2 := by
  have hc := fun w hl => pcheck_any A c l n w hl hm (by omega) (by omega)
  rw [show pchkE l n = 0 by unfold pchkE; rw [h]; rfl] at hc
  have hn := fun w => isnum_any v k w hv hk1 hk2
  rw [hf] at hn
  have HC := Lib.hid hc; have HN := Lib.hid hn; clear hc h hn hf
  go_enter Tryz.func14, Tryz.ntmps14
  go_wp2_with fail
  refine (HC.out _ ((hl.alloc _).alloc _)).mono ?_
  rintro e w1 ⟨rfl, hb1⟩
  obtain ⟨b1, z1, z2, k1, k2⟩ := box2 hb1
  have c2 := Blk.cells k2
  have f2 := Blk.frozens k2
  have c1 := Blk.cells k1
  clear hb1
  go_wp2_with fail
  refine (HN.out _).mono ?_
  rintro e w1 ⟨rfl, rfl⟩
  go_wp2_with fail
  refine bodyPost_ret (v := .tuple #[.agg #[.slice none 0 0, .int .i64 0], .int .i64 2]) (by simp [results, Tryz.results14, go_sem, c2]) rfl (PenRes.none_ ?_ rfl)
  exact (b1.setCell (by simp) _).setCell (by simp) _

set_option maxHeartbeats 1000000 in
theorem put_full (A : Option Addr) (c : Nat) (l : List Nat) (n : Nat) (v k : Nat) (w : World) (hl : Bs w A l) (hm : l.length ≤ 1000000000) (h2 : n ≤ 8388608) (h : mayB l n = true)
    (hv : v < 4294967296) (hf : fitsB v k = true) (hfull : 8388608 < n + k) :
    Calls Tryz.prog 14 #[.agg #[.slice A l.length c, .int .i64 n], .int .u32 v, .int .i64 k] w fun e w' => PenRes w w' e [] 0 9 := by
  have hc := fun w hl => pcheck_any A c l n w hl hm (by omega) (by omega)
  rw [show pchkE l n = 0 by unfold pchkE; rw [h]; rfl] at hc
  have hk := (fitsB_true hf).2.1
  have hn := fun w => isnum_any v k w hv (by omega) (by omega)
  rw [hf] at hn
  have HC := Lib.hid hc; have HN := Lib.hid hn; clear hc h hn hf
  go_enter Tryz.func14, Tryz.ntmps14
  go_wp2_with fail
  refine (HC.out _ ((hl.alloc _).alloc _)).mono ?_
  rintro e w1 ⟨rfl, hb1⟩
  obtain ⟨b1, z1, z2, k1, k2⟩ := box2 hb1
  have c2 := Blk.cells k2
  have f2 := Blk.frozens k2
  have c1 := Blk.cells k1
  clear hb1
  go_wp2_with fail
  refine (HN.out _).mono ?_
  rintro e w1 ⟨rfl, rfl⟩
  go_wp2_with fail
  refine bodyPost_ret (v := .tuple #[.agg #[.slice none 0 0, .int .i64 0], .int .i64 9]) (by simp [results, Tryz.results14, go_sem, c2]) rfl (PenRes.none_ ?_ rfl)
  exact (b1.setCell (by simp) _).setCell (by simp) _

set_option maxHeartbeats 1000000 in
theorem put_ok (A : Option Addr) (c : Nat) (l : List Nat) (n : Nat) (v k : Nat) (w : World) (hl : Bs w A l) (hA : A = none → l = []) (h2 : n ≤ 8388608) (h : mayB l n = true)
    (hv : v < 4294967296) (hf : fitsB v k = true) (hfull : n + k ≤ 8388608) :
    Calls Tryz.prog 14 #[.agg #[.slice A l.length c, .int .i64 n], .int .u32 v, .int .i64 k] w fun e w' => PenRes w w' e (putL l n v k) (n + k) 0 := by
  have hP := (Pen.of_may hl.2 h).1
  have hlen := hP.len
  have hm : l.length ≤ 2000000 := by omega
  have hc := fun w hl => pcheck_any A c l n w hl (by omega) (by omega) (by omega)
  rw [show pchkE l n = 0 by unfold pchkE; rw [h]; rfl] at hc
  have hk := (fitsB_true hf).2.1
  have hn := fun w => isnum_any v k w hv (by omega) (by omega)
  rw [hf] at hn
  have HC := Lib.hid hc; have HN := Lib.hid hn; have HA := Lib.hid hA; have HL := Lib.hid hlen; clear hc h hn hf hA hlen
  go_enter Tryz.func14, Tryz.ntmps14
  go_wp2_with fail
  refine (HC.out _ ((hl.alloc _).alloc _)).mono ?_
  rintro e w1 ⟨rfl, hb1⟩
  obtain ⟨b1, z1, z2, k1, k2⟩ := box2 hb1
  have c1 := Blk.cells k1
  clear hb1
  go_wp2_with fail
  refine (HN.out _).mono ?_
  rintro e w1 ⟨rfl, rfl⟩
  go_wp2_with fail
  refine (clone_any A c l _ ((hl.below b1).alloc _) HA.out (by omega)).mono ?_
  rintro e w2 ⟨A2, c2, rfl, hown2, hb2⟩
  obtain ⟨b2, z3, k3⟩ := box1 hb2
  have b3 := b1.trans (b2.mono b1.size)
  have c3 := Blk.cells k3
  have f3 := Blk.frozens k3
  have z4 : w1.heap.size < w2.heap.size := z3
  have hown2 := own_far_base (base' := w1.heap.size + 1) hown2 (by simp)
  clear hb2 c1
  go_wp2_with fail
  have hne2 := own_blk_ne hown2 k3 (by decide)
  have hp0 : PenAt w1.heap.size (w2.setCell ⟨w1.heap.size, 0, none⟩ (.slice A2 l.length c2)) 68 w1.heap.size l n :=
    ⟨A2, c2, Blk.set_ k3 0 _, own_far (own_far_base hown2 (by omega)) hne2 _⟩
  have hw0 : Below w1.heap.size w1 (w2.setCell ⟨w1.heap.size, 0, none⟩ (.slice A2 l.length c2)) := b2.setCell (Nat.le_refl _) _
  clear c3 f3 hown2 hne2 z3 k3
  go_loopg [39] k (fun gk vi wr => ∃ i : Nat, i ≤ k ∧ gk = k - i ∧ vi = .int .i64 i ∧ PenAt w1.heap.size wr 68 w1.heap.size (putL l n v i) (n + i) ∧ Below w1.heap.size w1 wr)
  case atStart => exact ⟨0, by omega, by omega, rfl, hp0, hw0⟩
  case round =>
    obtain ⟨i, hi, hgk, rfl, hpa, hwr⟩ := hrel
    by_cases hlt : i < k
    · have hs := shr_le v i
      obtain ⟨V, hV1, hV2⟩ : ∃ V : Nat, (v : Int) / 2 ^ i = (V : Int) ∧ V = v / 2 ^ i := ⟨v / 2 ^ i, by simp, rfl⟩
      have HV := Lib.hid hV2
      have hVl : V < 4294967296 := by omega
      clear hV2 hs
      have hPi := (hP.put v i).1
      go_wp2_with fail
      refine (bit_put w1.heap.size w1.heap.size (putL l n v i) (n + i) V _ hpa hPi (by omega) hVl (Nat.le_refl _)).mono ?_
      rintro e w4 ⟨rfl, hp4, hb4⟩
      go_wp2_with fail
      go_roundg (k - (i + 1))
      case measure => omega
      case rel =>
        refine ⟨i + 1, by omega, by omega, by go_num, ?_, hwr.trans hb4⟩
        have := HV.out
        subst this
        exact hp4
    · obtain rfl : i = k := by omega
      obtain ⟨A5, c5, hblk5, hown5⟩ := hpa
      have d5 := Blk.cells hblk5
      have kr : Blk wr (w.heap.size + 1) 24 #[.slice none 0 0, .int .i64 0] := Blk.below k2 hwr z2
      have cr := Blk.cells kr
      have fr := Blk.frozens kr
      generalize hm : putL l n v i = m at *
      have Hm := Lib.hid hm
      clear hm
      go_wp2_with fail
      refine bodyPost_ret (v := .tuple #[.agg #[.slice A5 m.length c5, .int .i64 ((n + i : Nat) : Int)], .int .i64 0]) (by simp [results, Tryz.results14, go_sem, cr, d5]) rfl ?_
      have hne5 := own_blk_ne hown5 kr (by decide)
      rw [Hm.out]
      exact ⟨((b1.trans (hwr.mono (by omega))).setCell (by simp) _).setCell (by simp) _, A5, c5, rfl, own_far (own_far (own_far_base hown5 (by omega)) hne5 _) hne5 _⟩
end Go.Proofs.YtfcefhaaphieeaaGreat
