/-
  SlideSame, walked. What a copy is.
-/
import Derived.Deep.QuietTactic
import Derived.Test.YtahboomghjdjhaaG03
import Derived.Test.YtahboomghjdjhaaGSlideLaws
import Derived.WalkSmall
namespace Go.Proofs.Ytahboomghjdjhaa
open Go.RowKit

theorem nth_app_left (l m : List Nat) (i : Nat) (h : i < l.length) : nth (l ++ m) i = nth l i := by simp [nth, List.getElem?_append_left h]
theorem nth_app_one (l : List Nat) (b i : Nat) (h : i = l.length) : nth (l ++ [b]) i = b := by subst h; simp [nth]
theorem nth_drop (l : List Nat) (k i : Nat) : nth (l.drop k) i = nth l (k + i) := by simp [nth, List.getElem?_drop]

theorem copy_stand (l : List Nat) (d : Nat) (hd : 1 ≤ d) (hl : d ≤ l.length) (n : Nat) : ∀ i, l.length ≤ i → i < l.length + n → nth (copyL l d n) i = nth (copyL l d n) (i - d) := by
  induction n with
  | zero => intro i h1 h2; omega
  | succ n ih =>
    intro i h1 h2
    have hlen := copyL_length l d n
    simp only [copyL]
    rcases Nat.lt_or_ge i (copyL l d n).length with h | h
    · rw [nth_app_left _ _ _ h, nth_app_left _ _ _ (by omega)]; exact ih i h1 (by omega)
    · rw [nth_app_one _ _ _ (by omega), nth_app_left _ _ _ (by omega), show i = (copyL l d n).length by omega]
theorem copy_old (l : List Nat) (d n : Nat) : ∀ i, i < l.length → nth (copyL l d n) i = nth l i := by
  induction n with
  | zero => intro i _; rfl
  | succ n ih =>
    intro i h
    have hlen := copyL_length l d n
    simp only [copyL]
    rw [nth_app_left _ _ _ (by omega)]; exact ih i h
theorem copy_same (l : List Nat) (hl : 1 ≤ l.length) (n i : Nat) (hi : i < n) : nth (copyL l 1 n) (l.length + i) = nth l (l.length - 1) := by
  induction i with
  | zero => rw [copy_stand l 1 (by omega) hl n _ (by omega) (by omega), Nat.add_zero, copy_old _ _ _ _ (by omega)]
  | succ i ih => rw [copy_stand l 1 (by omega) hl n _ (by omega) (by omega), show l.length + (i + 1) - 1 = l.length + i by omega, ih (by omega)]

instance (s : Int) (l : List Nat) : Decidable (MayW s l) := by unfold MayW; infer_instance
/-- Copy's error. -/
def copyE (s : Int) (l : List Nat) (dist n : Int) : Nat := if MayW s l then if n < 0 ∨ 258 < n ∨ dist < 1 then 2 else if (l.length : Int) < dist then 60 else 0 else 8

theorem copyE_zero {s : Int} {l : List Nat} {dist n : Int} (h : copyE s l dist n = 0) : ∃ S D N : Nat, s = S ∧ dist = D ∧ n = N ∧ MayW S l ∧ N ≤ 258 ∧ 1 ≤ D ∧ D ≤ l.length ∧ S ≤ 32768 := by
  unfold copyE at h
  by_cases hm : MayW s l
  · rw [if_pos hm] at h
    by_cases h1 : n < 0 ∨ 258 < n ∨ dist < 1
    · rw [if_pos h1] at h; omega
    · rw [if_neg h1] at h
      by_cases h2 : (l.length : Int) < dist
      · rw [if_pos h2] at h; omega
      · have hm' := hm
        obtain ⟨m1, m2, m3⟩ := hm'
        obtain ⟨S, rfl⟩ := Int.eq_ofNat_of_zero_le (show 0 ≤ s by omega)
        obtain ⟨D, rfl⟩ := Int.eq_ofNat_of_zero_le (show 0 ≤ dist by omega)
        obtain ⟨N, rfl⟩ := Int.eq_ofNat_of_zero_le (show 0 ≤ n by omega)
        exact ⟨S, D, N, rfl, rfl, rfl, hm, by omega, by omega, by omega, by omega⟩
  · rw [if_neg hm] at h; omega

theorem copy_no (A : Option Addr) (c : Nat) (l : List Nat) (s dist n : Int) (w : World) (E : Nat) (hE : copyE s l dist n = E) (h0 : E ≠ 0) (hm : l.length ≤ 1000000000) (h1 : -9223372036854775808 ≤ s) (h2 : s ≤ 9223372036854775807) :
    Calls Try.prog 42 #[.agg #[.int .i64 s, .slice A l.length c], .int .i64 dist, .int .i64 n] w fun e w' => CopyRes w w' e 0 [] [] E := by
  subst hE
  unfold copyE at h0 ⊢
  by_cases hmay : MayW s l
  · obtain ⟨S, rfl⟩ := Int.eq_ofNat_of_zero_le (show 0 ≤ s by have := hmay.1; omega)
    rw [if_pos hmay] at h0 ⊢
    by_cases ha : n < 0 ∨ 258 < n ∨ dist < 1
    · rw [if_pos ha]; exact copy_arg A c l S dist n w hmay ha
    · rw [if_neg ha] at h0 ⊢
      by_cases hf : (l.length : Int) < dist
      · rw [if_pos hf]; exact copy_far A c l S dist n w hmay (by omega) hf
      · rw [if_neg hf] at h0; exact absurd rfl h0
  · rw [if_neg hmay]; exact copy_bad A c l s dist n w hm h1 h2 hmay

end Go.Proofs.Ytahboomghjdjhaa

/-
  SlideNames, walked.
-/
namespace Go.Proofs.Ytahboomghjdjhaa
open Go.RowKit

/-- A copy, what it answers only to be read. -/
theorem copy_rd (A : Option Addr) (c : Nat) (l : List Nat) (s nl dist n : Nat) (w : World) (M T : List Nat) (hM : lastL s (copyL l dist n) = M) (hT : (copyL l dist n).drop l.length = T) (hnl : nl = l.length) (h : MayW s l) (hn : n ≤ 258) (hd1 : 1 ≤ dist) (hd2 : dist ≤ l.length) (hb : ∀ x ∈ l, x < 256) (hl : Rd w A (u8s l)) :
    Calls Try.prog 42 #[.agg #[.int .i64 s, .slice A nl c], .int .i64 dist, .int .i64 n] w fun e w' => ∃ B d C f, e = .returned (.tuple #[.agg #[.int .i64 (s : Int), .slice B M.length d], .slice C T.length f, .int .i64 0]) ∧ Below w.heap.size w w' ∧ Rd w' B (u8s M) ∧ Rd w' C (u8s T) ∧ M.length ≤ d :=
  (copy_is A c l s nl dist n w M T hM hT hnl h hn hd1 hd2 (rd_u8 hl hb) (fun e => List.map_eq_nil_iff.1 (hl.2 e))).mono fun e w' ⟨hbw, B, d, C, f, he, h1, h2⟩ => ⟨B, d, C, f, he, hbw, own_rd h1, own_rd h2, own_cap h1⟩
theorem copy_nay (A : Option Addr) (c : Nat) (l : List Nat) (s dist n : Int) (nl : Nat) (w : World) (E : Nat) (hE : copyE s l dist n = E) (h0 : E ≠ 0) (hnl : nl = l.length) (hm : l.length ≤ 1000000000) (h1 : -9223372036854775808 ≤ s) (h2 : s ≤ 9223372036854775807) :
    Calls Try.prog 42 #[.agg #[.int .i64 s, .slice A nl c], .int .i64 dist, .int .i64 n] w fun e w' => ∃ B d C f, e = .returned (.tuple #[.agg #[.int .i64 0, .slice B 0 d], .slice C 0 f, .int .i64 (E : Int)]) ∧ Below w.heap.size w w' := by
  subst hnl
  exact (copy_no A c l s dist n w E hE h0 hm h1 h2).mono fun e w' ⟨hbw, B, d, C, f, he, h1, h2⟩ => ⟨B, d, C, f, he, hbw⟩

end Go.Proofs.Ytahboomghjdjhaa

/-
  SlideCopies, walked.
-/
namespace Go.Proofs.Ytahboomghjdjhaa
open Go.RowKit

theorem copyL_pre (D : Nat) (pre P : List Nat) (hD : 1 ≤ D) (hP : D ≤ P.length) : ∀ n, copyL (pre ++ P) D n = pre ++ copyL P D n
  | 0 => rfl
  | n + 1 => by
    have ih := copyL_pre D pre P hD hP n
    have hl := copyL_length P D n
    simp only [copyL]
    rw [ih, List.append_assoc]
    congr 2
    rw [List.length_append]
    unfold nth
    rw [List.getElem?_append_right (by omega), show pre.length + (copyL P D n).length - D - pre.length = (copyL P D n).length - D by omega]
theorem copyL_add (l : List Nat) (D k : Nat) : ∀ j, copyL (copyL l D k) D j = copyL l D (k + j)
  | 0 => rfl
  | j + 1 => by
    show _ ++ [_] = _ ++ [_]
    rw [copyL_add l D k j]
    rfl
theorem copyL_take (l : List Nat) (D : Nat) : ∀ n, (copyL l D n).take l.length = l
  | 0 => List.take_length
  | n + 1 => by
    have := copyL_length l D n
    simp only [copyL]
    rw [List.take_append_of_le_length (by omega), copyL_take l D n]
theorem copyL_split (l : List Nat) (D n : Nat) : l ++ (copyL l D n).drop l.length = copyL l D n := by
  have := List.take_append_drop l.length (copyL l D n)
  rwa [copyL_take] at this
theorem last_last' (s : Nat) (x b : List Nat) : lastL s (lastL s x ++ b) = lastL s (x ++ b) := by
  unfold lastL
  rcases Nat.lt_or_ge s x.length with h | h
  · have e1 : (List.drop (x.length - s) x ++ b).length - s = b.length := by simp only [List.length_append, List.length_drop]; omega
    have e2 : (x ++ b).length - s = (x.length - s) + b.length := by simp only [List.length_append]; omega
    rw [e1, e2, ← List.drop_drop, show (x ++ b).drop (x.length - s) = x.drop (x.length - s) ++ b from List.drop_append_of_le_length (by omega)]
  · rw [show x.length - s = 0 by omega]; rfl
theorem lastL_len (s : Nat) (l : List Nat) : (lastL s l).length = min s l.length := by simp only [lastL, List.length_drop]; omega

/-- A copy in two parts. -/
theorem copy_parts (l : List Nat) (s D k j : Nat) (hD : 1 ≤ D) (hl : D ≤ l.length) (hs : l.length ≤ s) :
    (copyL (lastL s (copyL l D k)) D j).drop (lastL s (copyL l D k)).length = ((copyL l D (k + j)).drop l.length).drop k ∧ lastL s (copyL (lastL s (copyL l D k)) D j) = lastL s (copyL l D (k + j)) ∧
    (copyL l D k).drop l.length = ((copyL l D (k + j)).drop l.length).take k := by
  have hk := copyL_length l D k
  generalize hC : copyL l D k = C at *
  have hsplit : C = C.take (C.length - s) ++ lastL s C := (List.take_append_drop _ _).symm
  have hlen := lastL_len s C
  have hDP : D ≤ (lastL s C).length := by rw [hlen]; omega
  have hpre := copyL_pre D (C.take (C.length - s)) (lastL s C) hD hDP j
  rw [← hsplit] at hpre
  have hadd := copyL_add l D k j
  rw [hC] at hadd
  have h1 := copyL_split (lastL s C) D j
  have h2 := copyL_split C D j
  have e : C.length = (C.take (C.length - s)).length + (lastL s C).length := by
    have := congrArg List.length hsplit
    rwa [List.length_append] at this
  have hb : (copyL (lastL s C) D j).drop (lastL s C).length = (copyL C D j).drop C.length := by
    clear hsplit hlen h1 h2 hadd hk hDP
    generalize C.take (C.length - s) = Q at *
    rw [hpre, e, ← List.drop_drop, List.drop_left]
  refine ⟨?_, ?_, ?_⟩
  · rw [hb, ← hadd, List.drop_drop, ← hk]
  · rw [← h1, hb, last_last', h2, hadd]
  · rw [← hadd, ← h2]
    have e3 : C.drop l.length = C.drop l.length := rfl
    rw [List.drop_append_of_le_length (by omega), List.take_append_of_le_length (by rw [List.length_drop]; omega), List.take_of_length_le (by rw [List.length_drop]; omega)]

theorem push_rd (A B : Option Addr) (c d : Nat) (l b : List Nat) (s nl nb : Nat) (w : World) (M : List Nat) (hM : lastL s (l ++ b) = M) (hnl : nl = l.length) (hnb : nb = b.length) (h : MayW s l) (hbm : b.length ≤ 131072) (hlb : ∀ x ∈ l, x < 256) (hbb : ∀ x ∈ b, x < 256) (hc : l.length ≤ c) (hl : Rd w A (u8s l)) (hb : Rd w B (u8s b)) :
    Calls Try.prog 43 #[.agg #[.int .i64 s, .slice A nl c], .slice B nb d] w fun e w' => ∃ B d, e = .returned (.tuple #[.agg #[.int .i64 (s : Int), .slice B M.length d], .int .i64 0]) ∧ Below w.heap.size w w' ∧ Rd w' B (u8s M) :=
  (push_is A B c d l b s nl nb w M hM hnl hnb h hbm hc (rd_u8 hl hlb) (fun e => List.map_eq_nil_iff.1 (hl.2 e)) (rd_u8 hb hbb) (fun e => List.map_eq_nil_iff.1 (hb.2 e))).mono fun e w' ⟨hbw, B, d, he, h1⟩ => ⟨B, d, he, hbw, own_rd h1⟩

theorem str_append (a b : List Nat) : str a ++ str b = str (a ++ b) := by
  apply ByteArray.ext
  simp [str, ByteArray.data_append]

theorem copy_rd_i (A : Option Addr) (c : Nat) (l : List Nat) (s nl dist n : Nat) (nn : Int) (w : World) (M T : List Nat) (hnn : nn = (n : Int)) (hM : lastL s (copyL l dist n) = M) (hT : (copyL l dist n).drop l.length = T) (hnl : nl = l.length) (h : MayW s l) (hn : n ≤ 258) (hd1 : 1 ≤ dist) (hd2 : dist ≤ l.length) (hb : ∀ x ∈ l, x < 256) (hl : Rd w A (u8s l)) :
    Calls Try.prog 42 #[.agg #[.int .i64 s, .slice A nl c], .int .i64 dist, .int .i64 nn] w fun e w' => ∃ B d C f, e = .returned (.tuple #[.agg #[.int .i64 (s : Int), .slice B M.length d], .slice C T.length f, .int .i64 0]) ∧ Below w.heap.size w w' ∧ Rd w' B (u8s M) ∧ Rd w' C (u8s T) ∧ M.length ≤ d := by
  subst hnn
  exact copy_rd A c l s nl dist n w M T hM hT hnl h hn hd1 hd2 hb hl

theorem selem_u8 : Elem Try.prog 22 5 1 1 := Elem.mk' Try.underlying22 (z := .int .u8 0) (by kernel_rfl) rfl (by omega)

end Go.Proofs.Ytahboomghjdjhaa
