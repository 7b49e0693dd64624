/-
  Walks: slices.Clone at bytes, Twin, Same, Check, May.
-/
import Derived.Test.YtdaoocpcncbdpaaRows
import Derived.Test.YtdaoocpcncbdpaaMem
import Derived.Test.YtdaoocpcncbdpaaBitsB
import Derived.Test.YtdaoocpcncbdpaaPenM
import Derived.Deep.QuietTactic
import Derived.BigQuiet
import Derived.StillTailTactics
import Derived.Deep.DeepCutAuto
namespace Go.Proofs.Ytdaoocpcncbdpaa
open Go.RowKit

theorem info_u8 : (Try.prog.info? 5).map (fun i => (i.zero, i.size, i.bytes)) = some (some (.int .u8 0), 1, 1) := by kernel_rfl

set_option maxHeartbeats 400000 in
theorem clone_any (A : Option Addr) (c : Nat) (l : List Nat) (w : World) (hl : Bs w A l) (hA : A = none → l = []) (hm : l.length ≤ 1000000000) :
    Calls Try.prog 28 #[.slice A l.length c] w fun e w' => ∃ A' c', e = .returned (.slice A' l.length c') ∧ w'.ownsRow w.heap.size 5 1 (.slice A' l.length c') l.length (u8s l) ∧ Below w.heap.size w w' := by
  obtain ⟨i0, hi0, hz0, hz1, hz2⟩ := info_parts info_u8
  rcases A with _ | ad
  · obtain rfl := hA rfl
    have e1 := fun n => Lib.run_eql_slice_nil (P := Try.prog) w 22 5 none n c 0 0 Try.underlying22
    go_enter Try.func28, Try.ntmps28
    go_wp2_with fail
    go_ret
    exact ⟨none, 0, rfl, World.ownsRow_nil _ _ _ _, Below.refl _ _⟩
  · have e1 := Lib.run_eql_slice_nil (P := Try.prog) w 22 5 (some ad) l.length c 0 0 Try.underlying22
    have hl1 := (hl.alloc (.cells #[] 5)).1
    clear hA
    go_enter Try.func28, Try.ntmps28
    go_wp2_with (first
      | (at_builtin
         refine wpList_app _ rfl (.tmp 5) (.tmp 6) _ rfl w.heap.size 5 i0 _ 1 1 Try.underlying22 hi0 hz0 hz1 hz2 rfl (by omega) (.slice (some ⟨w.heap.size, 0, none⟩) 0 0) 0 [] rfl (by exact World.ownsRow_made w #[] 0 (Nat.le_refl _) (by omega) rfl) (some ad) l.length c (u8s l) rfl (by simp [u8s]) hl1 (by simp) (u8s_one l) l.length (by omega) (u8s l) rfl (by simp only [maxLen]; omega) (by omega) (by simp) ?_
         intro A1 c1 w1 hown hg hat))
    go_ret
    exact ⟨A1, c1, rfl, hown, ((Below.refl _ _).alloc (Nat.le_refl _) _).grown hg (by simp) (by simp [Value.ownBlock])⟩

set_option maxHeartbeats 400000 in
theorem twin_any (A : Option Addr) (c : Nat) (l : List Nat) (n : Int) (w : World) (hl : Bs w A l) (hA : A = none → l = []) (hm : l.length ≤ 1000000000) :
    Calls Try.prog 14 #[.agg #[.slice A l.length c, .int .i64 n]] w fun e w' => ∃ A' c', e = .returned (.agg #[.slice A' l.length c', .int .i64 n]) ∧ w'.ownsRow w.heap.size 5 1 (.slice A' l.length c') l.length (u8s l) ∧ Below w.heap.size w w' := by
  obtain ⟨i0, hi0, hz0, hz1, hz2⟩ := info_parts info_u8
  have hn0 : A = none → l.length = 0 := fun h => by rw [hA h]; rfl
  have HA := Lib.hid hn0; clear hn0 hA
  have hl1 := ((hl.alloc (.cells #[.slice A l.length c, .int .i64 n] 33)).alloc (.cells #[.slice none 0 0, .int .i64 0] 33)).1
  go_enter Try.func14, Try.ntmps14
  go_wp2_with fail
  go_region_law (refine step_app _ rfl (.const (.slice none 0 0)) (.tmp 4) _ rfl w.heap.size 5 i0 _ 1 1 Try.underlying22 hi0 hz0 hz1 hz2 rfl (by omega) (.slice none 0 0) 0 [] rfl (World.ownsRow_nil _ _ _ _) A l.length c (u8s l) (by simp [Act.eval, Act.put]) (by simp [u8s]) (by exact hl1) HA.out (u8s_one l) l.length (by omega) (u8s l) rfl (by simp only [maxLen]; omega) (by omega) (by simp; omega) ?_; intro A3 c3 w3 hown3 hg3 hat3; have k1 : Blk w3 w.heap.size 33 #[.slice A l.length c, .int .i64 n] := (Blk.drew ((Blk.new' _ _ _ _ rfl).alloc _)).grown hg3 (by simp [Value.ownBlock]); have k2 : Blk w3 (w.heap.size + 1) 33 #[.slice none 0 0, .int .i64 0] := (Blk.drew (Blk.new' _ _ _ _ (by simp))).grown hg3 (by simp [Value.ownBlock]); have c1 : w3.cell? ⟨w.heap.size, 1, none⟩ = some (.int .i64 n) := k1.cell 1; have d0 : w3.cell? ⟨w.heap.size + 1, 0, none⟩ = some (.slice none 0 0) := k2.cell 0; have d1 : w3.cell? ⟨w.heap.size + 1, 1, none⟩ = some (.int .i64 0) := k2.cell 1; have q0 := k2.frozen 0; have q1 := k2.frozen 1; have hb3 : Below w.heap.size w w3 := ((((Below.refl _ _).alloc (Nat.le_refl _) _).alloc (by simp) _).drew).grown hg3 (by simp; omega) (by simp [Value.ownBlock]))
  all_goals
    go_wp2_with fail
    refine bodyPost_ret (v := .agg #[.slice A3 l.length c3, .int .i64 n]) (by simp [results, Try.results14, go_sem, d0, d1]) rfl ⟨A3, c3, rfl, ?_, ?_⟩
    · have hne := own_blk_ne hown3 k2 (by decide)
      exact own_far (own_far hown3 hne _) hne _
    · exact (hb3.setCell (by simp) _).setCell (by simp) _

/-- Two pens of the same bytes and bits are the same. -/
theorem same_yes (A B : Option Addr) (c d : Nat) (l : List Nat) (n : Int) (w : World) (ha : Bs w A l) (hA : A = none → l = []) (hb : Bs w B l) (hB : B = none → l = []) :
    Calls Try.prog 19 #[.agg #[.slice A l.length c, .int .i64 n], .agg #[.slice B l.length d, .int .i64 n]] w fun e w' => e = .returned (.bool true) ∧ Below w.heap.size w w' := by
  have e1 := conv_bytes (P := Try.prog) ((w.alloc (.cells #[.slice A l.length c, .int .i64 n] 33)).alloc (.cells #[.slice B l.length d, .int .i64 n] 33)) 22 5 Try.underlying22 Try.underlying5 9 Try.underlying9 A l c ((ha.alloc _).alloc _) hA
  have e2 := conv_bytes (P := Try.prog) ((w.alloc (.cells #[.slice A l.length c, .int .i64 n] 33)).alloc (.cells #[.slice B l.length d, .int .i64 n] 33)) 22 5 Try.underlying22 Try.underlying5 9 Try.underlying9 B l d ((hb.alloc _).alloc _) hB
  clear ha hA hb hB
  go_enter Try.func19, Try.ntmps19
  go_wp2_with fail
  go_ret
  exact ⟨rfl, ((Below.refl _ _).alloc (Nat.le_refl _) _).alloc (by simp) _⟩

/-- Its errors: 0, or 8. -/
def chkE (l : List Nat) (n : Int) : Nat := if mayB l n then 0 else 8

theorem check_size (A : Option Addr) (c : Nat) (l : List Nat) (n : Int) (w : World) (hm : l.length ≤ 1000000000) (h1 : -9223372036854775808 ≤ n) (h2 : n ≤ 9223372036854775807)
    (h : n < 0 ∨ 8388608 < n ∨ (0 ≤ n ∧ n ≤ 8388608 ∧ (l.length : Int) ≠ (n + 7) / 8)) :
    Calls Try.prog 20 #[.agg #[.slice A l.length c, .int .i64 n]] w fun e w' => e = .returned (.int .i64 8) ∧ Below w.heap.size w w' := by
  by_cases ha : n < 0
  · clear h
    go_enter Try.func20, Try.ntmps20
    go_wp2_with fail
    go_ret
    exact ⟨rfl, (Below.refl _ _).alloc (Nat.le_refl _) _⟩
  · by_cases hb : 8388608 < n
    · clear h
      go_enter Try.func20, Try.ntmps20
      go_wp2_with fail
      go_ret
      exact ⟨rfl, (Below.refl _ _).alloc (Nat.le_refl _) _⟩
    · have hne : ((l.length : Int) != (n + 7) / 8) = true := by rw [bne_iff_ne]; omega
      clear h
      go_enter Try.func20, Try.ntmps20
      go_wp2_with fail
      go_ret
      exact ⟨rfl, (Below.refl _ _).alloc (Nat.le_refl _) _⟩

theorem check_full (A : Option Addr) (c : Nat) (l : List Nat) (n : Nat) (w : World) (h2 : n ≤ 8388608) (hn : l.length = (n + 7) / 8) (h8 : n % 8 = 0) :
    Calls Try.prog 20 #[.agg #[.slice A l.length c, .int .i64 n]] w fun e w' => e = .returned (.int .i64 0) ∧ Below w.heap.size w w' := by
  have hne : ((l.length : Int) != ((n : Int) + 7) / 8) = false := by rw [bne_eq_false_iff_eq]; omega
  have hz : ¬ (0 < (n : Int) % 8) := by omega
  have H := Lib.hid (And.intro hn h8)
  clear hn h8
  go_enter Try.func20, Try.ntmps20
  go_wp2_with fail
  go_ret
  exact ⟨rfl, (Below.refl _ _).alloc (Nat.le_refl _) _⟩

theorem check_over (A : Option Addr) (c : Nat) (l : List Nat) (n : Nat) (w : World) (hl : Bs w A l) (h2 : n ≤ 8388608) (hn : l.length = (n + 7) / 8) (h8 : n % 8 ≠ 0) :
    Calls Try.prog 20 #[.agg #[.slice A l.length c, .int .i64 n]] w fun e w' => e = .returned (.int .i64 (if nth l (l.length - 1) / 2 ^ (n % 8) = 0 then 0 else 8 : Nat)) ∧ Below w.heap.size w w' := by
  have hne : ((l.length : Int) != ((n : Int) + 7) / 8) = false := by rw [bne_eq_false_iff_eq]; omega
  have hz : 0 < (n : Int) % 8 := by omega
  have hlen : 0 < l.length := by omega
  have hlen2 : l.length ≤ 2000000 := by omega
  obtain ⟨b, off, rfl, hc, hb⟩ := hl.at_ (show l.length - 1 < l.length by omega)
  have hbl := cell_lt hc
  have hs := shr_le (nth l (l.length - 1)) (n % 8)
  have e1 : ((l.length : Int) - 1).toNat = l.length - 1 := by omega
  have H := Lib.hid (And.intro hn h8)
  clear hn h8
  by_cases hq : nth l (l.length - 1) / 2 ^ (n % 8) = 0
  · rw [if_pos hq]
    have hq' : ((nth l (l.length - 1) : Nat) : Int) / 2 ^ (n % 8) = 0 := by rw [cast_shr, hq]; rfl
    clear hs hq
    go_enter Try.func20, Try.ntmps20
    go_wp2_with fail
    go_ret
    exact ⟨rfl, (Below.refl _ _).alloc (Nat.le_refl _) _⟩
  · rw [if_neg hq]
    have hq' : 0 < ((nth l (l.length - 1) : Nat) : Int) / 2 ^ (n % 8) := by rw [cast_shr]; exact Int.natCast_pos.2 (Nat.pos_of_ne_zero hq)
    clear hs hq
    go_enter Try.func20, Try.ntmps20
    go_wp2_with fail
    go_ret
    exact ⟨rfl, (Below.refl _ _).alloc (Nat.le_refl _) _⟩

theorem chkE_size {l : List Nat} {n : Int} (h : ¬ (0 ≤ n ∧ n ≤ 8388608 ∧ (l.length : Int) = (n + 7) / 8)) : mayB l n = false := by
  unfold mayB
  rw [decide_eq_false_iff_not]
  exact fun h' => h ⟨h'.1, h'.2.1, h'.2.2.1⟩

theorem check_any (A : Option Addr) (c : Nat) (l : List Nat) (n : Int) (w : World) (hl : Bs w A l) (hm : l.length ≤ 1000000000) (h1 : -9223372036854775808 ≤ n) (h2 : n ≤ 9223372036854775807) :
    Calls Try.prog 20 #[.agg #[.slice A l.length c, .int .i64 n]] w fun e w' => e = .returned (.int .i64 (chkE l n)) ∧ Below w.heap.size w w' := by
  unfold chkE
  by_cases h : 0 ≤ n ∧ n ≤ 8388608 ∧ (l.length : Int) = (n + 7) / 8
  · obtain ⟨h3, h4, h5⟩ := h
    obtain ⟨m, rfl⟩ := Int.eq_ofNat_of_zero_le h3
    by_cases h8 : m % 8 = 0
    · rw [mayB_full l m (by omega) (by omega) h8]
      exact check_full A c l m w (by omega) (by omega) h8
    · rw [mayB_over l hl.2 m (by omega) (by omega) h8]
      have := check_over A c l m w hl (by omega) (by omega) h8
      by_cases hq : nth l (l.length - 1) / 2 ^ (m % 8) = 0
      · rw [if_pos hq] at this
        rw [decide_eq_true hq]
        exact this
      · rw [if_neg hq] at this
        rw [decide_eq_false hq]
        exact this
  · rw [chkE_size h]
    exact check_size A c l n w hm h1 h2 (by omega)

theorem may_size (A : Option Addr) (c : Nat) (l : List Nat) (n : Int) (w : World) (hm : l.length ≤ 1000000000) (h1 : -9223372036854775808 ≤ n) (h2 : n ≤ 9223372036854775807)
    (h : n < 0 ∨ 8388608 < n ∨ (0 ≤ n ∧ n ≤ 8388608 ∧ (l.length : Int) ≠ (n + 7) / 8)) :
    Calls Try.prog 30 #[.agg #[.slice A l.length c, .int .i64 n]] w fun e w' => e = .returned (.bool false) ∧ Below w.heap.size w w' := by
  by_cases ha : n < 0
  · clear h
    go_enter Try.func30, Try.ntmps30
    go_wp2_with fail
    go_ret
    exact ⟨rfl, (Below.refl _ _).alloc (Nat.le_refl _) _⟩
  · by_cases hb : 8388608 < n
    · clear h
      go_enter Try.func30, Try.ntmps30
      go_wp2_with fail
      go_ret
      exact ⟨rfl, (Below.refl _ _).alloc (Nat.le_refl _) _⟩
    · have hne : ((l.length : Int) != (n + 7) / 8) = true := by rw [bne_iff_ne]; omega
      clear h
      go_enter Try.func30, Try.ntmps30
      go_wp2_with fail
      go_ret
      exact ⟨rfl, (Below.refl _ _).alloc (Nat.le_refl _) _⟩

set_option maxHeartbeats 400000 in
theorem may_bits (A : Option Addr) (c : Nat) (l : List Nat) (n : Nat) (w : World) (hl : Bs w A l) (h2 : n ≤ 8388608) (hn : l.length = (n + 7) / 8) :
    Calls Try.prog 30 #[.agg #[.slice A l.length c, .int .i64 n]] w fun e w' => e = .returned (.bool (mayB l n)) ∧ Below w.heap.size w w' := by
  have hne : ((l.length : Int) != ((n : Int) + 7) / 8) = false := by rw [bne_eq_false_iff_eq]; omega
  have hlen2 : l.length ≤ 2000000 := by omega
  have hn1 : n ≤ 8 * l.length := by omega
  have hn2 : 8 * l.length ≤ n + 7 := by omega
  have H := Lib.hid hn
  clear hn
  go_enter Try.func30, Try.ntmps30
  go_wp2_with fail
  have hl1 := hl.alloc (.cells #[.slice A l.length c, .int .i64 (n : Int)] 33)
  go_loopg [3] (8 * l.length - n) (fun k v wr => ∃ i : Nat, n ≤ i ∧ i ≤ 8 * l.length ∧ k = 8 * l.length - i ∧ v = .int .i64 i ∧ wr = w.alloc (.cells #[.slice A l.length c, .int .i64 (n : Int)] 33) ∧ ∀ j, n ≤ j → j < i → bitOf l j = 0)
  case atStart => exact ⟨n, by omega, by omega, by omega, rfl, rfl, fun j _ _ => by omega⟩
  case round =>
    obtain ⟨i, hi1, hi2, hk, rfl, rfl, hz⟩ := hrel
    by_cases hlt : i < 8 * l.length
    · go_wp2_with fail
      refine (bit_any A c l i _ hl1 hlt (by omega)).mono ?_
      rintro e w' ⟨rfl, rfl⟩
      have hb2 := bitOf_lt l i
      by_cases hb : bitOf l i = 0
      · have Hz := Lib.hid hz; clear hz
        have hbf : ((bitOf l i : Int) != 0) = false := by rw [hb]; rfl
        have Hb := Lib.hid hb; clear hb
        go_wp2_with fail
        go_roundg (8 * l.length - (i + 1))
        case measure => omega
        case rel =>
          exact ⟨i + 1, by omega, by omega, by omega, by go_num, rfl, fun j h1 h2 => by
            rcases Nat.lt_or_ge j i with h | h
            · exact Hz.out j h1 h
            · obtain rfl : j = i := by omega
              exact Hb.out⟩
      · have hm : mayB l n = false := by
          unfold mayB
          rw [decide_eq_false_iff_not]
          exact fun h' => hb (h'.2.2.2 i hlt (by simpa using hi1))
        have hbf : ((bitOf l i : Int) != 0) = true := by rw [bne_iff_ne]; omega
        have Hm := Lib.hid hm
        clear hz hb hm
        go_wp2_with fail
        go_ret
        exact ⟨ret_bool Hm.out.symm, (Below.refl _ _).alloc (Nat.le_refl _) _⟩
    · have hm : mayB l n = true := by
        unfold mayB
        rw [decide_eq_true_iff]
        have := H.out
        exact ⟨by omega, by omega, by omega, fun j h1 h2 => hz j (by simpa using h2) (by omega)⟩
      have Hm := Lib.hid hm
      clear hz hm
      go_wp2_with fail
      go_ret
      exact ⟨ret_bool Hm.out.symm, (Below.refl _ _).alloc (Nat.le_refl _) _⟩

theorem may_any (A : Option Addr) (c : Nat) (l : List Nat) (n : Int) (w : World) (hl : Bs w A l) (hm : l.length ≤ 1000000000) (h1 : -9223372036854775808 ≤ n) (h2 : n ≤ 9223372036854775807) :
    Calls Try.prog 30 #[.agg #[.slice A l.length c, .int .i64 n]] w fun e w' => e = .returned (.bool (mayB l n)) ∧ Below w.heap.size w w' := by
  by_cases h : 0 ≤ n ∧ n ≤ 8388608 ∧ (l.length : Int) = (n + 7) / 8
  · obtain ⟨h3, h4, h5⟩ := h
    obtain ⟨m, rfl⟩ := Int.eq_ofNat_of_zero_le h3
    exact may_bits A c l m w hl (by omega) (by omega)
  · rw [chkE_size h]
    exact may_size A c l n w hm h1 h2 (by omega)

theorem rcheck_any (A : Option Addr) (c : Nat) (l : List Nat) (n : Int) (w : World) (hl : Bs w A l) (hm : l.length ≤ 1000000000) (h1 : -9223372036854775808 ≤ n) (h2 : n ≤ 9223372036854775807) :
    Calls Try.prog 21 #[.agg #[.slice A l.length c, .int .i64 n]] w fun e w' => e = .returned (.int .i64 (chkE l n)) ∧ Below w.heap.size w w' := by
  have hmay := fun w hl => may_any A c l n w hl hm h1 h2
  have hc : chkE l n = if mayB l n then 0 else 8 := rfl
  generalize mayB l n = b at *
  generalize chkE l n = E at *
  have HM := Lib.hid hmay
  clear hmay
  cases b with
  | true =>
    obtain rfl : E = 0 := hc
    go_enter Try.func21, Try.ntmps21
    go_wp2_with fail
    refine (HM.out _ (hl.alloc _)).mono ?_
    rintro e w1 ⟨rfl, hb1⟩
    go_wp2_with fail
    go_ret
    exact ⟨rfl, ((Below.refl _ _).alloc (Nat.le_refl _) _).trans (hb1.mono (by simp))⟩
  | false =>
    obtain rfl : E = 8 := hc
    go_enter Try.func21, Try.ntmps21
    go_wp2_with fail
    refine (HM.out _ (hl.alloc _)).mono ?_
    rintro e w1 ⟨rfl, hb1⟩
    go_wp2_with fail
    go_ret
    exact ⟨rfl, ((Below.refl _ _).alloc (Nat.le_refl _) _).trans (hb1.mono (by simp))⟩
end Go.Proofs.Ytdaoocpcncbdpaa
