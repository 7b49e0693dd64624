/-
  SlideSame, walked. What a copy is.
-/
import Derived.Test.YtocmodieeceonaaSlideLaws
import Derived.Deep.QuietTactic
import Derived.WalkSmall
namespace Go.Proofs.Ytocmodieeceonaa
open Go.RowKit

theorem nth_app_left (l m : List Nat) (i : Nat) (h : i < l.length) : nth (l ++ m) i = nth l i := by simp [nth, List.getElem?_append_left h]
theorem nth_app_one (l : List Nat) (b i : Nat) (h : i = l.length) : nth (l ++ [b]) i = b := by subst h; simp [nth]
theorem nth_drop (l : List Nat) (k i : Nat) : nth (l.drop k) i = nth l (k + i) := by simp [nth, List.getElem?_drop]

theorem copy_stand (l : List Nat) (d : Nat) (hd : 1 ≤ d) (hl : d ≤ l.length) (n : Nat) : ∀ i, l.length ≤ i → i < l.length + n → nth (copyL l d n) i = nth (copyL l d n) (i - d) := by
  induction n with
  | zero => intro i h1 h2; omega
  | succ n ih =>
    intro i h1 h2
    have hlen := copyL_length l d n
    simp only [copyL]
    rcases Nat.lt_or_ge i (copyL l d n).length with h | h
    · rw [nth_app_left _ _ _ h, nth_app_left _ _ _ (by omega)]; exact ih i h1 (by omega)
    · rw [nth_app_one _ _ _ (by omega), nth_app_left _ _ _ (by omega), show i = (copyL l d n).length by omega]
theorem copy_old (l : List Nat) (d n : Nat) : ∀ i, i < l.length → nth (copyL l d n) i = nth l i := by
  induction n with
  | zero => intro i _; rfl
  | succ n ih =>
    intro i h
    have hlen := copyL_length l d n
    simp only [copyL]
    rw [nth_app_left _ _ _ (by omega)]; exact ih i h
theorem copy_same (l : List Nat) (hl : 1 ≤ l.length) (n i : Nat) (hi : i < n) : nth (copyL l 1 n) (l.length + i) = nth l (l.length - 1) := by
  induction i with
  | zero => rw [copy_stand l 1 (by omega) hl n _ (by omega) (by omega), Nat.add_zero, copy_old _ _ _ _ (by omega)]
  | succ i ih => rw [copy_stand l 1 (by omega) hl n _ (by omega) (by omega), show l.length + (i + 1) - 1 = l.length + i by omega, ih (by omega)]

instance (s : Int) (l : List Nat) : Decidable (MayW s l) := by unfold MayW; infer_instance
/-- Copy's error. -/
def copyE (s : Int) (l : List Nat) (dist n : Int) : Nat := if MayW s l then if n < 0 ∨ 258 < n ∨ dist < 1 then 2 else if (l.length : Int) < dist then 60 else 0 else 8

theorem copyE_zero {s : Int} {l : List Nat} {dist n : Int} (h : copyE s l dist n = 0) : ∃ S D N : Nat, s = S ∧ dist = D ∧ n = N ∧ MayW S l ∧ N ≤ 258 ∧ 1 ≤ D ∧ D ≤ l.length ∧ S ≤ 32768 := by
  unfold copyE at h
  by_cases hm : MayW s l
  · rw [if_pos hm] at h
    by_cases h1 : n < 0 ∨ 258 < n ∨ dist < 1
    · rw [if_pos h1] at h; omega
    · rw [if_neg h1] at h
      by_cases h2 : (l.length : Int) < dist
      · rw [if_pos h2] at h; omega
      · have hm' := hm
        obtain ⟨m1, m2, m3⟩ := hm'
        obtain ⟨S, rfl⟩ := Int.eq_ofNat_of_zero_le (show 0 ≤ s by omega)
        obtain ⟨D, rfl⟩ := Int.eq_ofNat_of_zero_le (show 0 ≤ dist by omega)
        obtain ⟨N, rfl⟩ := Int.eq_ofNat_of_zero_le (show 0 ≤ n by omega)
        exact ⟨S, D, N, rfl, rfl, rfl, hm, by omega, by omega, by omega, by omega⟩
  · rw [if_neg hm] at h; omega

theorem copy_no (A : Option Addr) (c : Nat) (l : List Nat) (s dist n : Int) (w : World) (E : Nat) (hE : copyE s l dist n = E) (h0 : E ≠ 0) (hm : l.length ≤ 1000000000) (h1 : -9223372036854775808 ≤ s) (h2 : s ≤ 9223372036854775807) :
    Calls Try.prog 8 #[.agg #[.int .i64 s, .slice A l.length c], .int .i64 dist, .int .i64 n] w fun e w' => CopyRes w w' e 0 [] [] E := by
  subst hE
  unfold copyE at h0 ⊢
  by_cases hmay : MayW s l
  · obtain ⟨S, rfl⟩ := Int.eq_ofNat_of_zero_le (show 0 ≤ s by have := hmay.1; omega)
    rw [if_pos hmay] at h0 ⊢
    by_cases ha : n < 0 ∨ 258 < n ∨ dist < 1
    · rw [if_pos ha]; exact copy_arg A c l S dist n w hmay ha
    · rw [if_neg ha] at h0 ⊢
      by_cases hf : (l.length : Int) < dist
      · rw [if_pos hf]; exact copy_far A c l S dist n w hmay (by omega) hf
      · rw [if_neg hf] at h0; exact absurd rfl h0
  · rw [if_neg hmay]; exact copy_bad A c l s dist n w hm h1 h2 hmay

set_option maxHeartbeats 1000000 in
theorem same_walk (s : Int) (A : Option Addr) (l : List Nat) (c : Nat) (n : Int) (w : World) (h1 : -9223372036854775808 ≤ s) (h2 : s ≤ 9223372036854775807) (hin : InBs w A l) (hc : l.length ≤ c) (h3 : -9223372036854775808 ≤ n) (h4 : n ≤ 9223372036854775807) :
    Calls Try.prog 6 #[.agg #[.int .i64 s, .slice A l.length c], .int .i64 n] w fun e w' => e = .returned (.bool true) ∧ Below w.heap.size w w' := by
  obtain ⟨hl, hA, hm⟩ := hin
  unfold maxLen at hm
  have HA := Lib.hid hA; clear hA
  have HM := Lib.hid hm; clear hm
  by_cases hbig : 10000 < l.length
  · go_enter Try.func6, Try.ntmps6
    go_wp2_with fail
    refine (alive_any _).mono ?_
    rintro e w1 ⟨rfl, hb1⟩
    obtain ⟨b1, z1, k1⟩ := box1 hb1
    have c1 := Blk.cells k1
    clear hb1
    go_wp2_with fail
    go_ret
    exact ⟨rfl, b1⟩
  · by_cases h0 : copyE s l 1 n = 0
    · obtain ⟨s, D, n, rfl, hD, rfl, hmay, hn, hd1, hd2, hs2⟩ := copyE_zero h0
      have hD1 : D = 1 := by omega
      subst hD1
      obtain ⟨M, hM⟩ : ∃ M, lastL s (copyL l 1 n) = M := ⟨_, rfl⟩
      obtain ⟨T, hT⟩ : ∃ T, (copyL l 1 n).drop l.length = T := ⟨_, rfl⟩
      have hTl : T.length = n := by rw [← hT, List.length_drop, copyL_length]; omega
      have hTb : ∀ x ∈ T, x < 256 := by rw [← hT]; exact fun x hx => copyL_bytes hl.2 1 n x (List.mem_of_mem_drop hx)
      have hTn : ∀ i, i < n → nth T i = nth l (l.length - 1) := fun i hi => by rw [← hT, nth_drop]; exact copy_same l hd2 n i hi
      have HP := Lib.hid fun w hl hA => copy_is A c l s l.length 1 n w M T hM hT rfl hmay hn (by omega) hd2 hl hA
      have HT := Lib.hid (And.intro hTl (And.intro hTb hTn))
      have hTle : T.length ≤ 258 := by omega
      have hx256 := nth_lt hl.2 (by omega) (l.length - 1)
      clear hM hT hTb hTn hmay h0 hD hTl
      go_enter Try.func6, Try.ntmps6
      go_wp2_with fail
      refine (alive_any _).mono ?_
      rintro e w1 ⟨rfl, hb1⟩
      obtain ⟨b1, z1, k1⟩ := box1 hb1
      have c1 := Blk.cells k1
      have hl1 := hl.below b1
      clear hb1
      go_wp2_with fail
      refine (HP.out _ hl1 HA.out).mono ?_
      rintro e w2 ⟨hb2, A2, d2, A3, d3, rfl, hown2, hown3⟩
      have b2 := b1.trans (hb2.mono b1.size)
      have k2 := Blk.below k1 hb2 z1
      have z2 := Nat.lt_of_lt_of_le z1 hb2.size
      have hl2 := hl.below b2
      have x3 : Bs w2 A3 T := Bs.of_own hown3 HT.out.2.1
      clear c1 hb2 hown2 hown3
      go_wp2_with fail
      obtain ⟨W, hW⟩ : ∃ W, w2.alloc (.cells #[.int .i64 s, .slice A2 M.length d2] 24) = W := ⟨_, rfl⟩
      have bW : Below w.heap.size w W := by rw [← hW]; exact b2.alloc b2.size _
      have kW : Blk W w.heap.size 24 #[.int .i64 s, .slice A l.length c] := by rw [← hW]; exact Blk.alloc k2 _
      have lW : Bs W A l := by rw [← hW]; exact hl2.alloc _
      have tW : Bs W A3 T := by rw [← hW]; exact x3.alloc _
      rw [hW]
      clear hW k2 hl2 x3
      have cW := Blk.cells kW
      obtain ⟨b, off, rfl, hcell, hc256⟩ := lW.at_ (i := l.length - 1) (by omega)
      have hlast : IntKind.i64.wrap ((l.length : Int) - 1) = ((l.length - 1 : Nat) : Int) := by rw [IntWalk.i64_in _ (by omega)]; omega
      have hlt1 : l.length - 1 < l.length := by omega
      generalize hX : nth l (l.length - 1) = X at *
      go_loopg [9] T.length (fun k v wr => ∃ i : Nat, i ≤ T.length ∧ k = T.length - i ∧ v = .int .i64 i ∧ ∃ q, wr = W.drewN q)
      case atStart => exact ⟨0, by omega, by omega, rfl, 0, rfl⟩
      case round =>
        obtain ⟨i, hi, hk, rfl, q, rfl⟩ := hrel
        by_cases hlt : i < T.length
        · obtain ⟨b', off', rfl, hcell', hc256'⟩ := tW.at_ hlt
          rw [HT.out.2.2 i (by have := HT.out.1; omega)] at hcell'
          go_wp2_with fail
          go_quiet (fail)
          go_wp2_with fail
          go_roundg (T.length - (i + 1))
          case measure => omega
          case rel => exact ⟨i + 1, by omega, by omega, by go_num, _, rfl⟩
        · go_wp2_with fail
          go_ret
          exact ⟨rfl, below_drewN bW _⟩
    · have HP := Lib.hid fun w => copy_no A c l s 1 n w _ rfl h0 (by omega) h1 h2
      have he : ((copyE s l 1 n : Int) != 0) = true := by rw [bne_iff_ne]; omega
      generalize copyE s l 1 n = E at *
      go_enter Try.func6, Try.ntmps6
      go_wp2_with fail
      refine (alive_any _).mono ?_
      rintro e w1 ⟨rfl, hb1⟩
      obtain ⟨b1, z1, k1⟩ := box1 hb1
      have c1 := Blk.cells k1
      clear hb1
      go_wp2_with fail
      refine (HP.out _).mono ?_
      rintro e w2 ⟨hb2, A2, d2, A3, d3, rfl, hown2, hown3⟩
      have b2 := b1.trans (hb2.mono b1.size)
      clear c1 hb2 hown2 hown3
      go_wp2_with fail
      go_ret
      exact ⟨rfl, b2.alloc b2.size _⟩
end Go.Proofs.Ytocmodieeceonaa
