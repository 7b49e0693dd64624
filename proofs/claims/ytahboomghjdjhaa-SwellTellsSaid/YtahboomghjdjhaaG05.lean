/-
  Walks: Check (both), part, Parts.
-/
import Derived.BigQuiet
import Derived.Deep.QuietTactic
import Derived.Deep.RegionHeld3
import Derived.Test.YtahboomghjdjhaaG04
import Derived.Test.YtahboomghjdjhaaGOpen
import Derived.Test.YtahboomghjdjhaaRows
namespace Go.Proofs.Ytahboomghjdjhaa
open Go.RowKit

theorem elem_u8 : Elem Try.prog 22 5 1 1 := Elem.mk' Try.underlying22 (z := .int .u8 0) (by kernel_rfl) rfl (by omega)
section
variable {l : List Nat} {m : Int}
theorem can_arg (h : m < 1 ∨ 15 < m) : canE l m = 2 := by unfold canE; rw [if_pos h]
theorem can_many (h1 : 1 ≤ m) (h2 : m ≤ 15) (h : 320 < l.length) : canE l m = 4 := by unfold canE; rw [if_neg (by omega), if_pos h]
theorem can_big (h1 : 1 ≤ m) (h2 : m ≤ 15) (h3 : l.length ≤ 320) {i : Nat} (hi : i < l.length) (h : m < (nth l i : Nat)) : canE l m = 2 := by
  unfold canE
  rw [if_neg (by omega), if_neg (by omega), if_neg]
  intro ha
  have := of_decide_eq_true (List.all_eq_true.1 ha l[i] (List.getElem_mem hi))
  have e : nth l i = l[i] := by simp [nth, List.getElem?_eq_getElem hi]
  omega
theorem can_rest (h1 : 1 ≤ m) (h2 : m ≤ 15) (h3 : l.length ≤ 320) (h : ∀ i, i < l.length → ((nth l i : Nat) : Int) ≤ m) :
    canE l m = if 32768 < kraft l then 30 else if kraft l = 32768 ∨ used l = 0 ∨ used l = 1 ∧ kraft l = 16384 then 0 else 31 := by
  unfold canE
  rw [if_neg (by omega), if_neg (by omega), if_pos]
  rw [List.all_eq_true]
  intro x hx
  obtain ⟨i, hi, rfl⟩ := List.mem_iff_getElem.1 hx
  have := h i hi
  have e : nth l i = l[i] := by simp [nth, List.getElem?_eq_getElem hi]
  rw [e] at this
  exact decide_eq_true this
theorem kraft_step {i : Nat} (hi : i < l.length) : kraft (l.take (i + 1)) = kraft (l.take i) + (if nth l i = 0 then 0 else pw (nth l i)) ∧ used (l.take (i + 1)) = used (l.take i) + if nth l i = 0 then 0 else 1 := by
  rw [take_snoc l i hi, kraft_snoc, used_snoc]; exact ⟨rfl, rfl⟩
end

/-- A shift by a byte that a length leaves. -/
theorem pw_shl (x : Nat) : (2 : Int) ^ (15 - x) = ((pw x : Nat) : Int) := by unfold pw; simp

set_option maxHeartbeats 1000000 in
theorem check_any (A : Option Addr) (c : Nat) (l : List Nat) (m : Int) (w : World) (hl : Bs w A l) (hm : l.length ≤ 1001) (h1 : -9223372036854775808 ≤ m) (h2 : m ≤ 9223372036854775807) :
    Calls Try.prog 44 #[.slice A l.length c, .int .i64 m] w fun e w' => e = .returned (.int .i64 ((canE l m : Nat) : Int)) ∧ w = w' := by
  by_cases ha : m < 1 ∨ 15 < m
  · rw [can_arg ha]
    rcases ha with ha | ha
    all_goals
      go_enter Try.func44, Try.ntmps44
      go_wp2_with fail
      go_ret
      exact ⟨rfl, rfl⟩
  · by_cases hb : 320 < l.length
    · rw [can_many (by omega) (by omega) hb]
      have ha1 : ¬ m < 1 := by omega
      have ha2 : ¬ 15 < m := by omega
      clear ha
      go_enter Try.func44, Try.ntmps44
      go_wp2_with fail
      go_ret
      exact ⟨rfl, rfl⟩
    · have ha1 : 1 ≤ m := by omega
      have ha2 : m ≤ 15 := by omega
      have HB := Lib.hid fun i hi h => can_big (l := l) (i := i) ha1 ha2 (by omega) hi h
      have HR := Lib.hid fun h => can_rest (l := l) ha1 ha2 (by omega) h
      clear ha
      obtain ⟨E, hE⟩ : ∃ E, canE l m = E := ⟨_, rfl⟩
      have HE := Lib.hid hE
      rw [hE] at HB HR
      rw [hE]
      clear hE
      go_enter Try.func44, Try.ntmps44
      go_wp2_with fail
      go_loop [5, 6, 20] (fun a u v => ∃ i : Nat, i ≤ l.length ∧ (∀ k, k < i → ((nth l k : Nat) : Int) ≤ m) ∧ v = .int .i64 i ∧ a = .int .i64 ((kraft (l.take i) : Nat) : Int) ∧ u = .int .i64 ((used (l.take i) : Nat) : Int)) (fun _ _ v => l.length - (intOf v).toNat)
      case atStart => exact ⟨0, by omega, fun _ h => absurd h (by omega), rfl, rfl, rfl⟩
      case round =>
        obtain ⟨i, hi, hall, rfl, rfl, rfl⟩ := hrel
        have HA := Lib.hid hall; clear hall
        have hk := kraft_take_le l i
        have hu := used_le (l.take i)
        have hu2 : (l.take i).length ≤ i := List.length_take_le _ _
        by_cases hlt : i < l.length
        · obtain ⟨b, off, rfl, hcell, hx⟩ := hl.at_ hlt
          by_cases hbig : m < (nth l i : Nat)
          · have H := Lib.hid (HB.out i hlt hbig)
            generalize nth l i = x at *
            go_wp2_with fail
            go_ret
            rw [H.out]
            exact ⟨rfl, rfl⟩
          · have hn : ∀ k, k < i + 1 → ((nth l k : Nat) : Int) ≤ m := fun k hk => by
              rcases Nat.lt_or_ge k i with h | h
              · exact HA.out k h
              · obtain rfl : k = i := by omega
                omega
            have HN := Lib.hid hn; clear hn
            obtain ⟨s1, s2⟩ := kraft_step hlt
            by_cases h0 : nth l i = 0
            · rw [if_pos h0] at s1 s2
              rw [h0] at hcell hbig
              have HS := Lib.hid (And.intro s1 s2); clear s1 s2 h0
              go_wp2_with fail
              go_round
              case rel => exact ⟨i + 1, by omega, HN.out, by go_num, by rw [HS.out.1]; rfl, by rw [HS.out.2]; rfl⟩
              case measure => simp [intOf]; omega
            · rw [if_neg h0] at s1 s2
              have HS := Lib.hid (And.intro s1 s2); clear s1 s2
              have hp := pw_le (nth l i)
              have HP := Lib.hid (pw_shl (nth l i))
              have hx15 : nth l i ≤ 15 := by omega
              generalize nth l i = x at *
              go_wp2_with fail
              go_round
              case rel => exact ⟨i + 1, by omega, HN.out, by go_num, by rw [HS.out.1, HP.out, IntWalk.wrap64_in (pw x : Int) ⟨by omega, by omega⟩, IntWalk.wrap64_in _ ⟨by omega, by omega⟩]; go_num, by rw [HS.out.2]; go_num⟩
              case measure => simp [intOf]; omega
        · obtain rfl : i = l.length := by omega
          rw [List.take_length] at *
          have H := HR.out HA.out
          have hk2 : kraft l ≤ 40000000 := by omega
          clear hk hu hu2
          generalize kraft l = K at *
          generalize used l = U at *
          have q : 32768 < K ∧ E = 30 ∨ K = 32768 ∧ E = 0 ∨ K ≠ 32768 ∧ ¬ 32768 < K ∧ U = 0 ∧ E = 0 ∨ K = 16384 ∧ U = 1 ∧ E = 0 ∨ K ≠ 32768 ∧ ¬ 32768 < K ∧ U ≠ 0 ∧ U ≠ 1 ∧ E = 31 ∨ K ≠ 32768 ∧ ¬ 32768 < K ∧ U = 1 ∧ K ≠ 16384 ∧ E = 31 := by
            by_cases g1 : 32768 < K
            · rw [if_pos g1] at H; omega
            · rw [if_neg g1] at H
              by_cases g2 : K = 32768 ∨ U = 0 ∨ U = 1 ∧ K = 16384
              · rw [if_pos g2] at H; omega
              · rw [if_neg g2] at H; omega
          clear H HR HB HE HA
          rcases q with ⟨g1, rfl⟩ | ⟨rfl, rfl⟩ | ⟨g1, g2, rfl, rfl⟩ | ⟨rfl, rfl, rfl⟩ | ⟨g1, g2, g3, g4, rfl⟩ | ⟨g1, g2, rfl, g4, rfl⟩
          · go_wp2_with fail
            go_ret
            exact ⟨rfl, rfl⟩
          · go_wp2_with fail
            go_ret
            exact ⟨rfl, rfl⟩
          · have d1 : ((K : Int) == 32768) = false := by rw [beq_eq_false_iff_ne]; omega
            go_wp2_with fail
            go_ret
            exact ⟨rfl, rfl⟩
          · go_wp2_with fail
            go_ret
            exact ⟨rfl, rfl⟩
          · have d1 : ((K : Int) == 32768) = false := by rw [beq_eq_false_iff_ne]; omega
            have d2 : ((U : Int) == 0) = false := by rw [beq_eq_false_iff_ne]; omega
            have d3 : ((U : Int) == 1) = false := by rw [beq_eq_false_iff_ne]; omega
            go_wp2_with fail
            go_ret
            exact ⟨rfl, rfl⟩
          · have d1 : ((K : Int) == 32768) = false := by rw [beq_eq_false_iff_ne]; omega
            have d2 : ((K : Int) == 16384) = false := by rw [beq_eq_false_iff_ne]; omega
            go_wp2_with fail
            go_ret
            exact ⟨rfl, rfl⟩

end Go.Proofs.Ytahboomghjdjhaa

/-
  Walks: count, begin, next.
-/
namespace Go.Proofs.Ytahboomghjdjhaa
open Go.RowKit

/-- The counts, the first ones turned into codes. -/
def mixF (f : Nat → Nat) (n : Nat) (k : Nat) : Nat := if k < n then frF f k else f k

end Go.Proofs.Ytahboomghjdjhaa

/-
  Walks: Codes; the reference's Made and Codes; Same.
-/
namespace Go.Proofs.Ytahboomghjdjhaa
open Go.RowKit

/-- Codes as they lie in memory. -/
def codV (l : List (Nat × Nat)) : List Value := prs (fun c => .int .u32 ((c.1 : Nat) : Int)) (fun c => .int .u8 ((c.2 : Nat) : Int)) l
theorem codV_length (l : List (Nat × Nat)) : (codV l).length = l.length * 2 := prs_length l
theorem codV_one (l : List (Nat × Nat)) : ∀ u ∈ codV l, u.oneCell' = true := prs_one (fun _ => rfl) (fun _ => rfl) l
/-- What Codes answers. -/
def canL (l : List Nat) (m : Int) : List (Nat × Nat) := if canE l m = 0 then codesL l else []
/-- The codes of the first i places. -/
def someC (l : List Nat) (p : Nat → Bool) : List (Nat × Nat) := (List.range l.length).map fun k => if p k = true then codeAt l k else (0, 0)
theorem someC_length (l : List Nat) (p : Nat → Bool) : (someC l p).length = l.length := by simp [someC]
theorem someC_none (l : List Nat) (p : Nat → Bool) (h : ∀ k, k < l.length → p k = true → nth l k = 0) : someC l p = List.replicate l.length (0, 0) := by
  apply List.ext_getElem
  · simp [someC]
  · intro k h1 h2
    rw [someC_length] at h1
    simp only [someC, List.getElem_map, List.getElem_range, List.getElem_replicate]
    split
    · rename_i hp
      unfold codeAt; rw [if_pos (h k h1 hp)]
    · rfl
theorem someC_all (l : List Nat) (p : Nat → Bool) (h : ∀ k, k < l.length → p k = true ∨ nth l k = 0) : someC l p = codesL l := by
  unfold someC codesL
  apply List.map_congr_left
  intro k hk
  rcases h k (List.mem_range.1 hk) with h | h
  · rw [if_pos h]
  · split
    · rfl
    · unfold codeAt; rw [if_pos h]
theorem someC_congr (l : List Nat) {p q : Nat → Bool} (h : ∀ k, k < l.length → p k = q k ∨ nth l k = 0) : someC l p = someC l q := by
  unfold someC
  apply List.map_congr_left
  intro k hk
  rcases h k (List.mem_range.1 hk) with h | h
  · rw [h]
  · have : codeAt l k = (0, 0) := by unfold codeAt; rw [if_pos h]
    rw [this]; simp
theorem someC_set (l : List Nat) {p q : Nat → Bool} {i : Nat} (_ : i < l.length) (hq : q i = true) (h : ∀ k, k < l.length → k ≠ i → p k = q k ∨ nth l k = 0) : (someC l p).set i (codeAt l i) = someC l q := by
  apply List.ext_getElem
  · simp [someC]
  · intro k h1 h2
    rw [someC_length] at h2
    rw [List.getElem_set]
    by_cases e : i = k
    · subst e
      rw [if_pos rfl]
      simp [someC, hq]
    · rw [if_neg e]
      simp only [someC, List.getElem_map, List.getElem_range]
      rcases h k h2 (fun h => e h.symm) with h | h
      · rw [h]
      · have : codeAt l k = (0, 0) := by unfold codeAt; rw [if_pos h]
        rw [this]; simp

theorem nth_le {l : List Nat} {B : Nat} (h : ∀ x ∈ l, x ≤ B) (i : Nat) : nth l i ≤ B := by
  unfold nth
  rcases Nat.lt_or_ge i l.length with hi | hi
  · rw [List.getElem?_eq_getElem hi]; exact h _ (List.getElem_mem hi)
  · rw [List.getElem?_eq_none hi]; exact Nat.zero_le _

theorem two_far {w : World} {g i : Nat} {g' : Nat} {t : TypeId} {cs : Array Value} {a b : Value} (h : Blk w g' t cs) (hne : g' ≠ g) : Blk ((w.setCell ⟨g, i, none⟩ a).setCell ⟨g, i + 1, none⟩ b) g' t cs := (h.far (p := ⟨g, i, none⟩) hne a).far (p := ⟨g, i + 1, none⟩) hne b

/-- What the reference has made: all shorter ones, and those of length n ahead of i. -/
def madeP (l : List Nat) (n i k : Nat) : Bool := decide (nth l k < n ∨ nth l k = n ∧ k < i)

/-- A code's two cells. -/
theorem Rd.cod {w : World} {A : Option Addr} {l : List (Nat × Nat)} (h : Rd w A (codV l)) {i : Nat} (hi : i < l.length) :
    ∃ b off, A = some ⟨b, off, none⟩ ∧ w.cell? ⟨b, off + i * 2, none⟩ = some (.int .u32 (((l[i]'hi).1 : Nat) : Int)) ∧ w.cell? ⟨b, off + i * 2 + 1, none⟩ = some (.int .u8 (((l[i]'hi).2 : Nat) : Int)) := by
  obtain ⟨b, off, hA, hc⟩ := h.at_ (by rw [codV_length]; omega)
  obtain ⟨h1, h2⟩ := prs_get (f := fun c : Nat × Nat => .int .u32 ((c.1 : Nat) : Int)) (g := fun c : Nat × Nat => .int .u8 ((c.2 : Nat) : Int)) l i l[i] (List.getElem?_eq_getElem hi)
  refine ⟨b, off, hA, ?_, ?_⟩
  · rw [Nat.mul_comm]; exact hc _ _ h1
  · rw [Nat.add_assoc, Nat.mul_comm i 2]; exact hc _ _ h2

end Go.Proofs.Ytahboomghjdjhaa

/-
  The law CanonCodes, walked; are, eight, alive.
-/
namespace Go.Proofs.Ytahboomghjdjhaa
open Go.RowKit

theorem canL_len (l : List Nat) (m : Int) : (canL l m).length ≤ l.length := by
  unfold canL
  split
  · rw [codesL_length]; exact Nat.le_refl _
  · simp

theorem eight_ok : canE [3, 3, 3, 3, 3, 2, 4, 4] 15 = 0 ∧ codesL [3, 3, 3, 3, 3, 2, 4, 4] = [(2, 3), (3, 3), (4, 3), (5, 3), (6, 3), (0, 2), (14, 4), (15, 4)] := by decide +kernel

end Go.Proofs.Ytahboomghjdjhaa

/-
  begins; the law CanonApart, walked.
-/
namespace Go.Proofs.Ytahboomghjdjhaa
open Go.RowKit

/-- Does a code begin another one: what is answered. -/
def BegRes (w w' : World) (e : Ending) (a b : Nat × Nat) : Prop := e = .returned (.bool (begB a b)) ∧ Below w.heap.size w w'
theorem BegRes.mk' {w w' : World} {e : Ending} {a b : Nat × Nat} {t : Bool} (h : begB a b = t) (he : e = .returned (.bool t)) (hb : Below w.heap.size w w') : BegRes w w' e a b := by
  subst h; exact ⟨he, hb⟩
theorem u64_pow (n : Nat) (h : n ≤ 15) : IntKind.u64.wrap ((2 : Int) ^ n) = ((2 ^ n : Nat) : Int) := by
  have h1 : 2 ^ n ≤ 2 ^ 15 := pow2_le n 15 h
  have h2 : (2 : Nat) ^ 15 = 32768 := by decide
  rw [show ((2 : Int) ^ n) = ((2 ^ n : Nat) : Int) by simp]
  generalize 2 ^ n = P at *
  rw [IntKind.wrap_u64]
  omega
theorem fits_u64 {b n : Nat} (hn : n ≤ 15) (h : b < 2 ^ n) : decide ((b : Int) < IntKind.u64.wrap (2 ^ n)) = true := by
  rw [u64_pow n hn]
  exact decide_eq_true (by omega)
theorem codesL_get (l : List Nat) (i : Nat) (h : i < (codesL l).length) : (codesL l)[i] = codeAt l i := by simp [codesL]
/-- The two cells of a place's code. -/
theorem Rd.at_code {w : World} {A : Option Addr} {l : List Nat} (h : Rd w A (codV (codesL l))) {i : Nat} (hi : i < l.length) :
    ∃ b off, A = some ⟨b, off, none⟩ ∧ w.cell? ⟨b, off + i * 2, none⟩ = some (.int .u32 (((codeAt l i).1 : Nat) : Int)) ∧ w.cell? ⟨b, off + i * 2 + 1, none⟩ = some (.int .u8 (((nth l i : Nat)) : Int)) := by
  obtain ⟨b, off, h1, h2, h3⟩ := h.cod (i := i) (by rw [codesL_length]; exact hi)
  rw [codesL_get] at h2 h3
  rw [code_two] at h3
  exact ⟨b, off, h1, h2, h3⟩

end Go.Proofs.Ytahboomghjdjhaa
