/-
  Walks: Check (both), part, Parts.
-/
import Derived.BigQuiet
import Derived.Deep.QuietTactic
import Derived.Deep.RegionHeld3
import Derived.Test.YtfcefhaaphieeaaGreatG05
import Derived.Test.YtfcefhaaphieeaaGreatG08
import Derived.Test.YtfcefhaaphieeaaGreatG09
import Derived.Test.YtfcefhaaphieeaaGreatGOpen
import Derived.Test.YtfcefhaaphieeaaGreatRows
namespace Go.Proofs.YtfcefhaaphieeaaGreat
open Go.RowKit

theorem elem_u8 : Elem Tryz.prog 22 5 1 1 := Elem.mk' Tryz.underlying22 (z := .int .u8 0) (by kernel_rfl) rfl (by omega)
theorem elem_code : Elem Tryz.prog 98 108 2 8 := Elem.mk' Tryz.underlying98 (z := .agg #[.int .u32 0, .int .u8 0]) (by kernel_rfl) rfl (by omega)

section
variable {l : List Nat} {m : Int}
theorem can_arg (h : m < 1 ∨ 15 < m) : canE l m = 2 := by unfold canE; rw [if_pos h]
theorem can_many (h1 : 1 ≤ m) (h2 : m ≤ 15) (h : 320 < l.length) : canE l m = 4 := by unfold canE; rw [if_neg (by omega), if_pos h]
theorem can_big (h1 : 1 ≤ m) (h2 : m ≤ 15) (h3 : l.length ≤ 320) {i : Nat} (hi : i < l.length) (h : m < (nth l i : Nat)) : canE l m = 2 := by
  unfold canE
  rw [if_neg (by omega), if_neg (by omega), if_neg]
  intro ha
  have := of_decide_eq_true (List.all_eq_true.1 ha l[i] (List.getElem_mem hi))
  have e : nth l i = l[i] := by simp [nth, List.getElem?_eq_getElem hi]
  omega
theorem can_rest (h1 : 1 ≤ m) (h2 : m ≤ 15) (h3 : l.length ≤ 320) (h : ∀ i, i < l.length → ((nth l i : Nat) : Int) ≤ m) :
    canE l m = if 32768 < kraft l then 30 else if kraft l = 32768 ∨ used l = 0 ∨ used l = 1 ∧ kraft l = 16384 then 0 else 31 := by
  unfold canE
  rw [if_neg (by omega), if_neg (by omega), if_pos]
  rw [List.all_eq_true]
  intro x hx
  obtain ⟨i, hi, rfl⟩ := List.mem_iff_getElem.1 hx
  have := h i hi
  have e : nth l i = l[i] := by simp [nth, List.getElem?_eq_getElem hi]
  rw [e] at this
  exact decide_eq_true this
theorem kraft_step {i : Nat} (hi : i < l.length) : kraft (l.take (i + 1)) = kraft (l.take i) + (if nth l i = 0 then 0 else pw (nth l i)) ∧ used (l.take (i + 1)) = used (l.take i) + if nth l i = 0 then 0 else 1 := by
  rw [take_snoc l i hi, kraft_snoc, used_snoc]; exact ⟨rfl, rfl⟩
end

/-- A shift by a byte that a length leaves. -/
theorem pw_shl (x : Nat) : (2 : Int) ^ (15 - x) = ((pw x : Nat) : Int) := by unfold pw; simp

set_option maxHeartbeats 1000000 in
theorem check_any (A : Option Addr) (c : Nat) (l : List Nat) (m : Int) (w : World) (hl : Bs w A l) (hm : l.length ≤ 1001) (h1 : -9223372036854775808 ≤ m) (h2 : m ≤ 9223372036854775807) :
    Calls Tryz.prog 71 #[.slice A l.length c, .int .i64 m] w fun e w' => e = .returned (.int .i64 ((canE l m : Nat) : Int)) ∧ w = w' := by
  by_cases ha : m < 1 ∨ 15 < m
  · rw [can_arg ha]
    rcases ha with ha | ha
    all_goals
      go_enter Tryz.func71, Tryz.ntmps71
      go_wp2_with fail
      go_ret
      exact ⟨rfl, rfl⟩
  · by_cases hb : 320 < l.length
    · rw [can_many (by omega) (by omega) hb]
      have ha1 : ¬ m < 1 := by omega
      have ha2 : ¬ 15 < m := by omega
      clear ha
      go_enter Tryz.func71, Tryz.ntmps71
      go_wp2_with fail
      go_ret
      exact ⟨rfl, rfl⟩
    · have ha1 : 1 ≤ m := by omega
      have ha2 : m ≤ 15 := by omega
      have HB := Lib.hid fun i hi h => can_big (l := l) (i := i) ha1 ha2 (by omega) hi h
      have HR := Lib.hid fun h => can_rest (l := l) ha1 ha2 (by omega) h
      clear ha
      obtain ⟨E, hE⟩ : ∃ E, canE l m = E := ⟨_, rfl⟩
      have HE := Lib.hid hE
      rw [hE] at HB HR
      rw [hE]
      clear hE
      go_enter Tryz.func71, Tryz.ntmps71
      go_wp2_with fail
      go_loop [5, 6, 20] (fun a u v => ∃ i : Nat, i ≤ l.length ∧ (∀ k, k < i → ((nth l k : Nat) : Int) ≤ m) ∧ v = .int .i64 i ∧ a = .int .i64 ((kraft (l.take i) : Nat) : Int) ∧ u = .int .i64 ((used (l.take i) : Nat) : Int)) (fun _ _ v => l.length - (intOf v).toNat)
      case atStart => exact ⟨0, by omega, fun _ h => absurd h (by omega), rfl, rfl, rfl⟩
      case round =>
        obtain ⟨i, hi, hall, rfl, rfl, rfl⟩ := hrel
        have HA := Lib.hid hall; clear hall
        have hk := kraft_take_le l i
        have hu := used_le (l.take i)
        have hu2 : (l.take i).length ≤ i := List.length_take_le _ _
        by_cases hlt : i < l.length
        · obtain ⟨b, off, rfl, hcell, hx⟩ := hl.at_ hlt
          by_cases hbig : m < (nth l i : Nat)
          · have H := Lib.hid (HB.out i hlt hbig)
            generalize nth l i = x at *
            go_wp2_with fail
            go_ret
            rw [H.out]
            exact ⟨rfl, rfl⟩
          · have hn : ∀ k, k < i + 1 → ((nth l k : Nat) : Int) ≤ m := fun k hk => by
              rcases Nat.lt_or_ge k i with h | h
              · exact HA.out k h
              · obtain rfl : k = i := by omega
                omega
            have HN := Lib.hid hn; clear hn
            obtain ⟨s1, s2⟩ := kraft_step hlt
            by_cases h0 : nth l i = 0
            · rw [if_pos h0] at s1 s2
              rw [h0] at hcell hbig
              have HS := Lib.hid (And.intro s1 s2); clear s1 s2 h0
              go_wp2_with fail
              go_round
              case rel => exact ⟨i + 1, by omega, HN.out, by go_num, by rw [HS.out.1]; rfl, by rw [HS.out.2]; rfl⟩
              case measure => simp [intOf]; omega
            · rw [if_neg h0] at s1 s2
              have HS := Lib.hid (And.intro s1 s2); clear s1 s2
              have hp := pw_le (nth l i)
              have HP := Lib.hid (pw_shl (nth l i))
              have hx15 : nth l i ≤ 15 := by omega
              generalize nth l i = x at *
              go_wp2_with fail
              go_round
              case rel => exact ⟨i + 1, by omega, HN.out, by go_num, by rw [HS.out.1, HP.out, IntWalk.wrap64_in (pw x : Int) ⟨by omega, by omega⟩, IntWalk.wrap64_in _ ⟨by omega, by omega⟩]; go_num, by rw [HS.out.2]; go_num⟩
              case measure => simp [intOf]; omega
        · obtain rfl : i = l.length := by omega
          rw [List.take_length] at *
          have H := HR.out HA.out
          have hk2 : kraft l ≤ 40000000 := by omega
          clear hk hu hu2
          generalize kraft l = K at *
          generalize used l = U at *
          have q : 32768 < K ∧ E = 30 ∨ K = 32768 ∧ E = 0 ∨ K ≠ 32768 ∧ ¬ 32768 < K ∧ U = 0 ∧ E = 0 ∨ K = 16384 ∧ U = 1 ∧ E = 0 ∨ K ≠ 32768 ∧ ¬ 32768 < K ∧ U ≠ 0 ∧ U ≠ 1 ∧ E = 31 ∨ K ≠ 32768 ∧ ¬ 32768 < K ∧ U = 1 ∧ K ≠ 16384 ∧ E = 31 := by
            by_cases g1 : 32768 < K
            · rw [if_pos g1] at H; omega
            · rw [if_neg g1] at H
              by_cases g2 : K = 32768 ∨ U = 0 ∨ U = 1 ∧ K = 16384
              · rw [if_pos g2] at H; omega
              · rw [if_neg g2] at H; omega
          clear H HR HB HE HA
          rcases q with ⟨g1, rfl⟩ | ⟨rfl, rfl⟩ | ⟨g1, g2, rfl, rfl⟩ | ⟨rfl, rfl, rfl⟩ | ⟨g1, g2, g3, g4, rfl⟩ | ⟨g1, g2, rfl, g4, rfl⟩
          · go_wp2_with fail
            go_ret
            exact ⟨rfl, rfl⟩
          · go_wp2_with fail
            go_ret
            exact ⟨rfl, rfl⟩
          · have d1 : ((K : Int) == 32768) = false := by rw [beq_eq_false_iff_ne]; omega
            go_wp2_with fail
            go_ret
            exact ⟨rfl, rfl⟩
          · go_wp2_with fail
            go_ret
            exact ⟨rfl, rfl⟩
          · have d1 : ((K : Int) == 32768) = false := by rw [beq_eq_false_iff_ne]; omega
            have d2 : ((U : Int) == 0) = false := by rw [beq_eq_false_iff_ne]; omega
            have d3 : ((U : Int) == 1) = false := by rw [beq_eq_false_iff_ne]; omega
            go_wp2_with fail
            go_ret
            exact ⟨rfl, rfl⟩
          · have d1 : ((K : Int) == 32768) = false := by rw [beq_eq_false_iff_ne]; omega
            have d2 : ((K : Int) == 16384) = false := by rw [beq_eq_false_iff_ne]; omega
            go_wp2_with fail
            go_ret
            exact ⟨rfl, rfl⟩

set_option maxHeartbeats 1000000 in
theorem part_any (x : Nat) (w : World) (hx : x ≤ 15) :
    Calls Tryz.prog 76 #[.int .u8 (x : Int)] w fun e w' => e = .returned (.int .i64 ((pw x : Nat) : Int)) ∧ w' = w := by
  go_enter Tryz.func76, Tryz.ntmps76
  go_wp2_with fail
  go_loop [3, 4] (fun p v => ∃ i : Nat, i ≤ x ∧ v = .int .i64 i ∧ p = .int .i64 ((pw i : Nat) : Int)) (fun _ v => x - (intOf v).toNat)
  case atStart => exact ⟨0, by omega, rfl, rfl⟩
  case round =>
    obtain ⟨i, hi, rfl, rfl⟩ := hrel
    have hp := pw_le i
    by_cases hlt : i < x
    · have hs := pw_succ (n := i) (by omega)
      have HS := Lib.hid (show (pw i : Int) / 2 = ((pw (i + 1) : Nat) : Int) by omega); clear hs
      go_wp2_with fail
      go_round
      case rel => exact ⟨i + 1, by omega, by go_num, by rw [HS.out]⟩
      case measure => simp [intOf]; omega
    · obtain rfl : i = x := by omega
      go_wp2_with fail
      go_ret
      exact ⟨rfl, rfl⟩

end Go.Proofs.YtfcefhaaphieeaaGreat

/-
  Walks: count, begin, next.
-/
namespace Go.Proofs.YtfcefhaaphieeaaGreat
open Go.RowKit

theorem size_counts : (Tryz.prog.info? 137).map (·.size) = some 17 := by kernel_rfl

/-- The array of counts of some lengths. -/
def CntArr (w : World) (g : Nat) (f : Nat → Nat) : Prop := Arr w g 137 17 (w32 f)

set_option maxHeartbeats 2000000 in
theorem count_any (A : Option Addr) (c : Nat) (l : List Nat) (w : World) (hl : Bs w A l) (hm : l.length ≤ 1001) (h15 : ∀ i, nth l i ≤ 15) :
    Calls Tryz.prog 72 #[.slice A l.length c] w fun e w' => e = .returned (.agg (cellsOf 17 (w32 (cnt l)))) ∧ Below w.heap.size w w' := by
  have H15 := Lib.hid h15; clear h15
  go_enter Tryz.func72, Tryz.ntmps72
  go_wp2_with fail
  go_loopg [7] l.length (fun gk v wr => ∃ i : Nat, i ≤ l.length ∧ gk = l.length - i ∧ v = .int .i64 (i : Int) ∧ CntArr wr w.heap.size (cnt (l.take i)) ∧ Below w.heap.size w wr)
  case atStart => exact ⟨0, by omega, by omega, rfl, Blk.new _ _ _, (Below.refl _ _).alloc (Nat.le_refl _) _⟩
  case round =>
    obtain ⟨i, hi, hk, rfl, hC, hB⟩ := hrel
    have hl1 := hl.below hB
    by_cases hlt : i < l.length
    · obtain ⟨b, off, rfl, hcell, hx⟩ := hl1.at_ hlt
      have hx15 := H15.out i
      have hle := cnt_le (l.take i) (nth l i)
      have hle2 : (l.take i).length ≤ i := List.length_take_le _ _
      have HT := Lib.hid (take_snoc l i hlt)
      by_cases h0 : nth l i = 0
      · have HN := Lib.hid (show ∀ k, k < 17 → w32 (cnt (l.take i)) k = w32 (cnt (l.take (i + 1))) k from fun k _ => by
          unfold w32; rw [HT.out, cnt_snoc, if_neg (by omega)])
        rw [h0] at hcell
        clear h0 hle
        go_wp2_with fail
        go_roundg (l.length - (i + 1))
        case measure => omega
        case rel => exact ⟨i + 1, by omega, by omega, by go_num, Arr.congr hC HN.out, hB⟩
      · have hc0 : wr.cell? ⟨w.heap.size, nth l i, none⟩ = some (.int .u32 ((cnt (l.take i) (nth l i) : Nat) : Int)) := Arr.cell hC _ (by omega)
        have hf0 := Arr.free hC (nth l i)
        have hgl := Arr.lt hC
        have HN := Lib.hid (show ∀ k, k < 17 → (if k = nth l i then Value.int .u32 (((cnt (l.take i) (nth l i) + 1 : Nat)) : Int) else w32 (cnt (l.take i)) k) = w32 (cnt (l.take (i + 1))) k from fun k _ => by
          unfold w32; rw [HT.out, cnt_snoc]
          by_cases e : k = nth l i
          · rw [if_pos e, if_pos ⟨by omega, e⟩, e]
          · rw [if_neg e, if_neg (fun h => e h.2)])
        generalize cnt (l.take i) (nth l i) = N at *
        generalize nth l i = x at *
        go_wp2_with fail
        go_roundg (l.length - (i + 1))
        case measure => omega
        case rel => exact ⟨i + 1, by omega, by omega, by go_num, Arr.congr (Arr.set hC x _) HN.out, hB.setCell (Nat.le_refl _) _⟩
    · obtain rfl : i = l.length := by omega
      rw [List.take_length] at hC
      go_wp2_with (first
        | (refine load_arr rfl 137 (.tmp 2) rfl rfl hC Tryz.underlying137 rfl size_counts ?_)
        | (refine store_arr rfl 137 (.tmp 2) (.tmp 19) rfl rfl rfl hC size_counts (fun _ _ => rfl) hB (Nat.le_refl _) ?_; intro w5 hC5 hB5))
      refine bodyPost_ret (results_cell_row Tryz.results72 _ _ w.heap.size 137 (cellsOf 17 (w32 (cnt l))) (0, 0) _ rfl hC5 Tryz.underlying137 rfl (by rw [size_counts, cellsOf_size])) rfl ⟨rfl, hB5⟩
/-- The counts, the first ones turned into codes. -/
def mixF (f : Nat → Nat) (n : Nat) (k : Nat) : Nat := if k < n then frF f k else f k

set_option maxHeartbeats 2000000 in
theorem begin_any (g : Nat) (f : Nat → Nat) (w : World) (hC : CntArr w g f) (hf : ∀ n, n ≤ 16 → (frF f n + f n) * 2 ≤ 200000) :
    Calls Tryz.prog 73 #[.pointer (some ⟨g, 0, none⟩)] w fun e w' => e = .returned (.tuple #[]) ∧ CntArr w' g (frF f) ∧ w.grownBy w' (some g) := by
  have HF := Lib.hid hf; clear hf
  go_enter Tryz.func73, Tryz.ntmps73
  go_wp2_with fail
  go_loopg [2, 4] 17 (fun gk cv v wr => ∃ n : Nat, n ≤ 17 ∧ gk = 17 - n ∧ v = .int .i64 (n : Int) ∧ cv = .int .u32 ((frF f n : Nat) : Int) ∧ CntArr wr g (mixF f n) ∧ w.grownBy wr (some g))
  case atStart => exact ⟨0, by omega, by omega, rfl, rfl, Arr.congr hC (fun k _ => by unfold w32 mixF; rw [if_neg (by omega)]), World.grownBy.refl _ _⟩
  case round =>
    obtain ⟨n, hn, hk, rfl, rfl, hA, hG⟩ := hrel
    by_cases hlt : n < 17
    · have hb := HF.out n (by omega)
      have hc0 : wr.cell? ⟨g, n, none⟩ = some (.int .u32 ((f n : Nat) : Int)) := by
        have := Arr.cell hA n (by omega)
        rw [this]; unfold w32 mixF; rw [if_neg (by omega)]
      have hf0 := Arr.free hA n
      have hgl := Arr.lt hA
      have HS := Lib.hid (show frF f (n + 1) = (frF f n + f n) * 2 from rfl)
      have HN := Lib.hid (show ∀ k, k < 17 → (if k = n then Value.int .u32 ((frF f n : Nat) : Int) else w32 (mixF f n) k) = w32 (mixF f (n + 1)) k from fun k _ => by
        unfold w32 mixF
        by_cases e : k = n
        · rw [if_pos e, if_pos (by omega), e]
        · rw [if_neg e]
          by_cases e2 : k < n
          · rw [if_pos e2, if_pos (by omega)]
          · rw [if_neg e2, if_neg (by omega)])
      generalize frF f n = Y at *
      generalize f n = X at *
      go_wp2_with fail
      go_region
      go_wp2_with fail
      go_roundg (17 - (n + 1))
      case measure => omega
      case rel => exact ⟨n + 1, by omega, by omega, by go_num, by rw [HS.out]; go_num, Arr.congr (Arr.set (Arr.drewN hA _) n _) HN.out, only_set (only_drewN hG _) _ _⟩
    · obtain rfl : n = 17 := by omega
      go_wp2_with fail
      go_end0
      exact ⟨rfl, Arr.congr hA (fun k hk => by unfold w32 mixF; rw [if_pos hk]), hG⟩

set_option maxHeartbeats 2000000 in
theorem next_any (g n : Nat) (f : Nat → Nat) (w : World) (hC : CntArr w g f) (hn : n ≤ 15) (hf : f n ≤ 200000) :
    Calls Tryz.prog 74 #[.pointer (some ⟨g, 0, none⟩), .int .u8 (n : Int)] w fun e w' => e = .returned (.agg #[.int .u32 ((f n : Nat) : Int), .int .u8 (n : Int)]) ∧ CntArr w' g (fun k => if k = n then f n + 1 else f k) ∧ w.grownBy w' (some g) := by
  have hc0 : w.cell? ⟨g, n, none⟩ = some (.int .u32 ((f n : Nat) : Int)) := Arr.cell hC n (by omega)
  have hf0 := Arr.free hC n
  have hgl := Arr.lt hC
  have HN := Lib.hid (show ∀ k, k < 17 → (if k = n then Value.int .u32 ((f n + 1 : Nat) : Int) else w32 f k) = w32 (fun k => if k = n then f n + 1 else f k) k from fun k _ => by
    show _ = Value.int .u32 (((if k = n then f n + 1 else f k : Nat)) : Int)
    by_cases e : k = n
    · rw [if_pos e, if_pos e]
    · rw [if_neg e, if_neg e]; rfl)
  have HC := Lib.hid hC
  generalize f n = X at *
  go_enter Tryz.func74, Tryz.ntmps74
  go_wp2_with fail
  go_region
  go_wp2_with fail
  refine bodyPost_ret (v := .agg #[.int .u32 X, .int .u8 n]) (by simp [results, Tryz.results74, go_sem]) rfl ⟨rfl, ?_, ?_⟩
  · exact Arr.congr (Arr.drew (Arr.alloc (Arr.set hC n _) _)) HN.out
  · exact only_drew (only_alloc (only_set (World.grownBy.refl _ _) _ _) _)
end Go.Proofs.YtfcefhaaphieeaaGreat

/-
  Walks: Codes; the reference's Made and Codes; Same.
-/
namespace Go.Proofs.YtfcefhaaphieeaaGreat
open Go.RowKit

/-- Codes as they lie in memory. -/
def codV (l : List (Nat × Nat)) : List Value := prs (fun c => .int .u32 ((c.1 : Nat) : Int)) (fun c => .int .u8 ((c.2 : Nat) : Int)) l
theorem codV_length (l : List (Nat × Nat)) : (codV l).length = l.length * 2 := prs_length l
theorem codV_one (l : List (Nat × Nat)) : ∀ u ∈ codV l, u.oneCell' = true := prs_one (fun _ => rfl) (fun _ => rfl) l
/-- What Codes answers. -/
def canL (l : List Nat) (m : Int) : List (Nat × Nat) := if canE l m = 0 then codesL l else []
def CodRes (w w' : World) (e : Ending) (l : List Nat) (m : Int) : Prop :=
  ∃ B d, e = .returned (.tuple #[.slice B (canL l m).length d, .int .i64 ((canE l m : Nat) : Int)]) ∧ Builds w w' 108 2 B (canL l m).length d (codV (canL l m))
theorem CodRes.no {w w' : World} {e : Ending} {l : List Nat} {m : Int} {E : Nat} (hE : canE l m = E) (h0 : E ≠ 0) (hb : Below w.heap.size w w') (he : e = .returned (.tuple #[.slice none 0 0, .int .i64 (E : Int)])) : CodRes w w' e l m := by
  have : canL l m = [] := by unfold canL; rw [if_neg (by rw [hE]; exact h0)]
  unfold CodRes
  rw [this, hE]
  exact ⟨none, 0, he, Builds.nil' hb _ _⟩
theorem CodRes.yes {w w' : World} {e : Ending} {l : List Nat} {m : Int} (hE : canE l m = 0) {B : Option Addr} {d n : Nat} (hn : n = l.length) (he : e = .returned (.tuple #[.slice B n d, .int .i64 0])) (hb : Builds w w' 108 2 B n d (codV (codesL l))) : CodRes w w' e l m := by
  have : canL l m = codesL l := by unfold canL; rw [if_pos hE]
  unfold CodRes
  rw [this, hE, codesL_length]
  subst hn
  exact ⟨B, d, he, hb⟩

/-- The codes of the first i places. -/
def someC (l : List Nat) (p : Nat → Bool) : List (Nat × Nat) := (List.range l.length).map fun k => if p k = true then codeAt l k else (0, 0)
theorem someC_length (l : List Nat) (p : Nat → Bool) : (someC l p).length = l.length := by simp [someC]
theorem someC_none (l : List Nat) (p : Nat → Bool) (h : ∀ k, k < l.length → p k = true → nth l k = 0) : someC l p = List.replicate l.length (0, 0) := by
  apply List.ext_getElem
  · simp [someC]
  · intro k h1 h2
    rw [someC_length] at h1
    simp only [someC, List.getElem_map, List.getElem_range, List.getElem_replicate]
    split
    · rename_i hp
      unfold codeAt; rw [if_pos (h k h1 hp)]
    · rfl
theorem someC_all (l : List Nat) (p : Nat → Bool) (h : ∀ k, k < l.length → p k = true ∨ nth l k = 0) : someC l p = codesL l := by
  unfold someC codesL
  apply List.map_congr_left
  intro k hk
  rcases h k (List.mem_range.1 hk) with h | h
  · rw [if_pos h]
  · split
    · rfl
    · unfold codeAt; rw [if_pos h]
theorem someC_congr (l : List Nat) {p q : Nat → Bool} (h : ∀ k, k < l.length → p k = q k ∨ nth l k = 0) : someC l p = someC l q := by
  unfold someC
  apply List.map_congr_left
  intro k hk
  rcases h k (List.mem_range.1 hk) with h | h
  · rw [h]
  · have : codeAt l k = (0, 0) := by unfold codeAt; rw [if_pos h]
    rw [this]; simp
theorem someC_set (l : List Nat) {p q : Nat → Bool} {i : Nat} (_ : i < l.length) (hq : q i = true) (h : ∀ k, k < l.length → k ≠ i → p k = q k ∨ nth l k = 0) : (someC l p).set i (codeAt l i) = someC l q := by
  apply List.ext_getElem
  · simp [someC]
  · intro k h1 h2
    rw [someC_length] at h2
    rw [List.getElem_set]
    by_cases e : i = k
    · subst e
      rw [if_pos rfl]
      simp [someC, hq]
    · rw [if_neg e]
      simp only [someC, List.getElem_map, List.getElem_range]
      rcases h k h2 (fun h => e h.symm) with h | h
      · rw [h]
      · have : codeAt l k = (0, 0) := by unfold codeAt; rw [if_pos h]
        rw [this]; simp

theorem nth_le {l : List Nat} {B : Nat} (h : ∀ x ∈ l, x ≤ B) (i : Nat) : nth l i ≤ B := by
  unfold nth
  rcases Nat.lt_or_ge i l.length with hi | hi
  · rw [List.getElem?_eq_getElem hi]; exact h _ (List.getElem_mem hi)
  · rw [List.getElem?_eq_none hi]; exact Nat.zero_le _

theorem two_far {w : World} {g i : Nat} {g' : Nat} {t : TypeId} {cs : Array Value} {a b : Value} (h : Blk w g' t cs) (hne : g' ≠ g) : Blk ((w.setCell ⟨g, i, none⟩ a).setCell ⟨g, i + 1, none⟩ b) g' t cs := (h.far (p := ⟨g, i, none⟩) hne a).far (p := ⟨g, i + 1, none⟩) hne b

set_option maxHeartbeats 4000000 in
set_option maxRecDepth 100000 in
theorem codes_any (A : Option Addr) (c : Nat) (l : List Nat) (m : Int) (w : World) (hl : Bs w A l) (hm : l.length ≤ 1001) (h1 : -9223372036854775808 ≤ m) (h2 : m ≤ 9223372036854775807) :
    Calls Tryz.prog 47 #[.slice A l.length c, .int .i64 m] w fun e w' => CodRes w w' e l m := by
  have HE := Lib.hid fun w h => check_any A c l m w h hm h1 h2
  by_cases h0 : canE l m = 0
  · obtain ⟨g1, g2, g3, g4, g5, _⟩ := canE_ok h0
    have g15 : ∀ x ∈ l, x ≤ 15 := fun x hx => by have := g4 x hx; omega
    have n15 := nth_le g15
    have HC := Lib.hid fun w h => count_any A c l w h hm n15
    have HB := Lib.hid fun g w h => begin_any g (cnt l) w h (fun n hn => fr_16 g15 g5 hn)
    have HR := Lib.hid fun k => fr_le' (l := l) g15 g5 (n := nth l k) (n15 k)
    have H0 := Lib.hid h0
    have H15 := Lib.hid n15
    rw [h0] at HE
    clear h0 g4 g5 n15 g15
    go_enter Tryz.func47, Tryz.ntmps47
    go_wp2_with fail
    refine (HE.out _ hl).mono ?_
    rintro e w1 ⟨rfl, rfl⟩
    go_wp2_with fail
    refine (HC.out _ hl).mono ?_
    rintro e w1 ⟨rfl, hb1⟩
    generalize hcc : cellsOf 17 (w32 (cnt l)) = CC
    have HCC := Lib.hid hcc; clear hcc
    go_wp2_with (refine store_new rfl _ _ _ rfl _ CC rfl rfl (by simp) _ _ (by rw [← HCC.out, size_counts, cellsOf_size]) (by rw [← HCC.out, cellsOf_size]; rfl) (by rw [← HCC.out]; exact cellsOf_one (fun _ _ => rfl)) ?_)
    have hA1 : CntArr (w1.alloc (.cells CC 137)) w1.heap.size (cnt l) := by rw [← HCC.out]; exact Blk.new _ _ _
    refine (HB.out _ _ hA1).mono ?_
    rintro e w2 ⟨rfl, hA2, hG2⟩
    have hb2 : Below w.heap.size w w2 := (hb1.alloc hb1.size _).trans (only_below hG2 (by have := hb1.size; simp; omega) hb1.size)
    clear hA1 hG2 HCC
    go_wp2_with (at_make; refine makes elem_code (z := .agg #[.int .u32 0, .int .u8 0]) (by kernel_rfl) rfl _ _ rfl l.length rfl rfl rfl (by omega) (by omega) (codV (List.replicate l.length (0, 0))) (made_prs (0, 0) rfl _) ?_; intro w3 hB3)
    have hA3 := Arr.below hA2 hB3.1 (Arr.lt hA2)
    have hB3' := hB3.rebase hb2
    have hg3 : w1.heap.size ≤ w2.heap.size := Nat.le_of_lt (Arr.lt hA2)
    have hg0 := hb1.size
    have hgne : w2.heap.size ≠ w1.heap.size := by have := Arr.lt hA2; omega
    clear hB3 hA2
    go_loopg [25] l.length (fun gk v wr => ∃ i : Nat, i ≤ l.length ∧ gk = l.length - i ∧ v = .int .i64 (i : Int) ∧ CntArr wr w1.heap.size (fun n => frF (cnt l) n + cnt (l.take i) n) ∧ Builds w wr 108 2 (some ⟨w2.heap.size, 0, none⟩) l.length l.length (codV (someC l (fun k => decide (k < i)))))
    case atStart =>
      refine ⟨0, by omega, by omega, rfl, Arr.congr hA3 (fun k _ => by unfold w32; simp [cnt_nil]), ?_⟩
      rw [someC_none]
      · exact hB3'
      · intro k _ h; simp at h
    case round =>
      obtain ⟨i, hi, hk, rfl, hA, hB⟩ := hrel
      have hl1 := hl.below hB.1
      by_cases hlt : i < l.length
      · obtain ⟨b, off, rfl, hcell, hx⟩ := hl1.at_ hlt
        have hx15 := H15.out i
        have hfr := HR.out i
        have hct := cnt_take_le l (nth l i) i
        have HT := Lib.hid (take_snoc l i hlt)
        have HCA := Lib.hid (show codeAt l i = if nth l i = 0 then (0, 0) else (frF (cnt l) (nth l i) + cnt (l.take i) (nth l i), nth l i) from rfl)
        by_cases hz : nth l i = 0
        · have HN := Lib.hid (show ∀ k, k < 17 → w32 (fun n => frF (cnt l) n + cnt (l.take i) n) k = w32 (fun n => frF (cnt l) n + cnt (l.take (i + 1)) n) k from fun k _ => by
            unfold w32; dsimp only; rw [HT.out, cnt_snoc, if_neg (by omega)])
          have HM := Lib.hid (show someC l (fun k => decide (k < i)) = someC l (fun k => decide (k < i + 1)) from someC_congr l (fun k _ => by
            by_cases e : k = i
            · right; rw [e]; exact hz
            · left; rw [Bool.eq_iff_iff]; simp; omega))
          rw [hz] at hcell
          clear hz hfr hct
          go_wp2_with fail
          go_roundg (l.length - (i + 1))
          case measure => omega
          case rel => exact ⟨i + 1, by omega, by omega, by go_num, Arr.congr hA HN.out, by rw [← HM.out]; exact hB⟩
        · have HN := Lib.hid (show ∀ k, k < 17 → w32 (fun k => if k = nth l i then (frF (cnt l) (nth l i) + cnt (l.take i) (nth l i)) + 1 else frF (cnt l) k + cnt (l.take i) k) k = w32 (fun n => frF (cnt l) n + cnt (l.take (i + 1)) n) k from fun k _ => by
            unfold w32; dsimp only; rw [HT.out, cnt_snoc]
            by_cases e : k = nth l i
            · rw [if_pos e, if_pos ⟨by omega, e⟩, e, Nat.add_assoc]
            · rw [if_neg e, if_neg (fun h => e h.2)])
          have HM := Lib.hid (show (someC l (fun k => decide (k < i))).set i (codeAt l i) = someC l (fun k => decide (k < i + 1)) from someC_set l hlt (by simp) (fun k _ hne => by
            left; rw [Bool.eq_iff_iff]; simp; omega))
          have HX := Lib.hid fun w h => next_any w1.heap.size (nth l i) (fun n => frF (cnt l) n + cnt (l.take i) n) w h hx15 (by omega)
          rw [if_neg hz] at HCA
          generalize frF (cnt l) (nth l i) + cnt (l.take i) (nth l i) = Y at *
          generalize nth l i = x at *
          go_wp2_with fail
          refine (HX.out _ hA).mono ?_
          rintro e w4 ⟨rfl, hA4, hG4⟩
          have hB4 := hB.only hG4 hA (by decide) hg0
          have hc4 := hB4.cell (i * 2) (by omega)
          have hc5 := hB4.cell (i * 2 + 1) (by omega)
          have hcx := (codV_length (someC l (fun k => decide (k < i))))
          rw [someC_length] at hcx
          have hq4 : i * 2 < (codV (someC l (fun k => decide (k < i)))).length := by omega
          have hq5 : i * 2 + 1 < (codV (someC l (fun k => decide (k < i)))).length := by omega
          rw [List.getElem?_eq_getElem hq4] at hc4
          rw [List.getElem?_eq_getElem hq5] at hc5
          have hf4 := hB4.free (i * 2)
          have hf5 := hB4.free (i * 2 + 1)
          have hlt4 := (hB4.2.lt _ rfl).2
          have hB5 := (hB4.set (i * 2) (by omega) (.int .u32 (Y : Int))).set (i * 2 + 1) (by omega) (.int .u8 (x : Int))
          have HB5 := Lib.hid hB5
          have HB4 := Lib.hid hB4
          have HA5 := Lib.hid (two_far (i := i * 2) (a := .int .u32 (Y : Int)) (b := .int .u8 (x : Int)) hA4 (Ne.symm hgne))
          clear hB5 hB4 hcx
          generalize (codV (someC l (fun k => decide (k < i))))[i * 2] = v4 at *
          generalize (codV (someC l (fun k => decide (k < i))))[i * 2 + 1] = v5 at *
          clear hq4 hq5
          go_wp2_with fail
          go_roundg (l.length - (i + 1))
          case measure => omega
          case rel =>
            refine ⟨i + 1, by omega, by omega, by go_num, Arr.congr HA5.out HN.out, ?_⟩
            have h := HB5.out
            rw [show ((codV (someC l (fun k => decide (k < i)))).set (i * 2) (.int .u32 (Y : Int))).set (i * 2 + 1) (.int .u8 (x : Int)) = codV ((someC l (fun k => decide (k < i))).set i (Y, x)) from prs_set _ i (Y, x) (by rw [someC_length]; omega), ← HCA.out, HM.out] at h
            exact h
      · obtain rfl : i = l.length := by omega
        have HS := Lib.hid (someC_all l (fun k => decide (k < l.length)) (fun k hk => .inl (by simpa using hk)))
        go_wp2_with fail
        go_ret2
        rw [HS.out] at hB
        exact CodRes.yes H0.out rfl rfl hB
  · have H := Lib.hid fun w' e => CodRes.no (w := w) (w' := w') (e := e) rfl h0
    have he : ((canE l m : Int) != 0) = true := by rw [bne_iff_ne]; omega
    have hE := canE_le l m
    generalize canE l m = E at *
    go_enter Tryz.func47, Tryz.ntmps47
    go_wp2_with fail
    refine (HE.out _ hl).mono ?_
    rintro e w1 ⟨rfl, rfl⟩
    go_wp2_with fail
    go_ret2
    exact H.out _ _ (Below.refl _ _) rfl

/-- What the reference has made: all shorter ones, and those of length n ahead of i. -/
def madeP (l : List Nat) (n i k : Nat) : Bool := decide (nth l k < n ∨ nth l k = n ∧ k < i)

set_option maxHeartbeats 4000000 in
set_option maxRecDepth 100000 in
theorem made_any (A : Option Addr) (c : Nat) (l : List Nat) (w : World) (hl : Bs w A l) (hm : l.length ≤ 1001) (h15 : ∀ x ∈ l, x ≤ 15) (hk : kraft l ≤ 32768) :
    Calls Tryz.prog 51 #[.slice A l.length c] w fun e w' => ∃ B d, e = .returned (.slice B l.length d) ∧ Builds w w' 108 2 B l.length d (codV (codesL l)) := by
  have n15 := nth_le h15
  have HAT := Lib.hid fun n (hn : n ≤ 16) => (show atF (cnt l) n ≤ 32768 from Nat.le_trans (atF_mono _ hn) (by rw [← kraft_at l h15]; exact hk))
  have HFA := Lib.hid (fr_at (cnt l) (cnt_0 l))
  have H15 := Lib.hid n15
  clear h15 hk n15
  go_enter Tryz.func51, Tryz.ntmps51
  go_wp2_with (at_make; refine makes elem_code (z := .agg #[.int .u32 0, .int .u8 0]) (by kernel_rfl) rfl _ _ rfl l.length rfl rfl rfl (by omega) (by omega) (codV (List.replicate l.length (0, 0))) (made_prs (0, 0) rfl _) ?_; intro w3 hB3)
  go_loopg [4, 5] 15 (fun gk av nv wr => ∃ n : Nat, 1 ≤ n ∧ n ≤ 16 ∧ gk = 16 - n ∧ nv = .int .i64 (n : Int) ∧ av = .int .i64 ((atF (cnt l) n : Nat) : Int) ∧ Builds w wr 108 2 (some ⟨w.heap.size, 0, none⟩) l.length l.length (codV (someC l (madeP l n 0))))
  case atStart =>
    refine ⟨1, by omega, by omega, by omega, rfl, by simp [atF, cnt_0], ?_⟩
    rw [someC_none]
    · exact hB3
    · intro k _ h; simp [madeP] at h; omega
  case round =>
    obtain ⟨n, hn1, hn2, hgk, rfl, rfl, hB⟩ := hrel
    by_cases hlt : n ≤ 15
    · have hd15 : decide ((n : Int) ≤ 15) = true := by simp; omega
      have hat := HAT.out n (by omega)
      have hat2 := HAT.out (n + 1) (by omega)
      have HS := Lib.hid (show atF (cnt l) (n + 1) = atF (cnt l) n + cnt l n * pw n from rfl)
      have HFN := Lib.hid (HFA.out n hlt)
      go_wp2_with fail
      obtain ⟨wo, rfl⟩ : ∃ wo : World, wo = wr := ⟨_, rfl⟩
      go_loopg [4, 6] l.length (fun gk av iv wr => ∃ i : Nat, i ≤ l.length ∧ gk = l.length - i ∧ iv = .int .i64 (i : Int) ∧ av = .int .i64 ((atF (cnt l) n + cnt (l.take i) n * pw n : Nat) : Int) ∧ Builds w wr 108 2 (some ⟨w.heap.size, 0, none⟩) l.length l.length (codV (someC l (madeP l n i))))
      case atStart => exact ⟨0, by omega, by omega, rfl, by simp [cnt_nil], hB⟩
      case round =>
        obtain ⟨i, hi, hgk2, rfl, rfl, hB⟩ := hrel
        have hl1 := hl.below hB.1
        have hct := cnt_take_le l n i
        have hcm := Nat.mul_le_mul_right (pw n) hct
        by_cases hlti : i < l.length
        · obtain ⟨b, off, rfl, hcell, hx⟩ := hl1.at_ hlti
          have HT := Lib.hid (take_snoc l i hlti)
          by_cases he : nth l i = n
          · have HP := Lib.hid fun w => part_any n w hlt
            have hpp := pw_pos n
            have HCA := Lib.hid (show codeAt l i = (frF (cnt l) n + cnt (l.take i) n, n) by unfold codeAt; rw [he, if_neg (by omega)])
            have HM := Lib.hid (show (someC l (madeP l n i)).set i (codeAt l i) = someC l (madeP l n (i + 1)) from someC_set l hlti (by simp [madeP, he]) (fun k _ hne => by
              left; unfold madeP; rw [Bool.eq_iff_iff]; simp; omega))
            have HQ := Lib.hid (show (atF (cnt l) n + cnt (l.take i) n * pw n) / pw n = frF (cnt l) n + cnt (l.take i) n by rw [← HFN.out, ← Nat.add_mul, Nat.mul_div_cancel _ (by omega)])
            have hQle : frF (cnt l) n + cnt (l.take i) n ≤ 32768 := by rw [← HQ.out]; exact Nat.le_trans (Nat.div_le_self _ _) (by have := HS.out; omega)
            have HC1 := Lib.hid (show atF (cnt l) n + cnt (l.take (i + 1)) n * pw n = (atF (cnt l) n + cnt (l.take i) n * pw n) + pw n by rw [HT.out, cnt_snoc, if_pos ⟨by omega, he.symm⟩, Nat.add_mul]; omega)
            have hs32 : atF (cnt l) n + cnt (l.take i) n * pw n ≤ 32768 := by have := HS.out; omega
            have hpw := pw_le n
            rw [he] at hcell
            have hc4 := hB.cell (i * 2) (by omega)
            have hc5 := hB.cell (i * 2 + 1) (by omega)
            have hcx := (codV_length (someC l (madeP l n i)))
            rw [someC_length] at hcx
            have hq4 : i * 2 < (codV (someC l (madeP l n i))).length := by omega
            have hq5 : i * 2 + 1 < (codV (someC l (madeP l n i))).length := by omega
            rw [List.getElem?_eq_getElem hq4] at hc4
            rw [List.getElem?_eq_getElem hq5] at hc5
            have hf4 := hB.free (i * 2)
            have hf5 := hB.free (i * 2 + 1)
            have hlt4 := (hB.2.lt _ rfl).2
            have HB5 := Lib.hid ((hB.set (i * 2) (by omega) (.int .u32 ((frF (cnt l) n + cnt (l.take i) n : Nat) : Int))).set (i * 2 + 1) (by omega) (.int .u8 (n : Int)))
            generalize (codV (someC l (madeP l n i)))[i * 2] = v4 at *
            generalize (codV (someC l (madeP l n i)))[i * 2 + 1] = v5 at *
            clear hq4 hq5 hcx he hct hcm
            generalize frF (cnt l) n + cnt (l.take i) n = Y at *
            generalize hSS : atF (cnt l) n + cnt (l.take i) n * pw n = S at *
            generalize hpn : pw n = p at *
            have HPN := Lib.hid hpn; clear hpn
            have HSS := Lib.hid hSS; clear hSS
            go_wp2_with fail
            refine (HP.out _).mono ?_
            rintro e w4 ⟨rfl, rfl⟩
            have hdiv : (S : Int) / p = (Y : Int) := by rw [← HQ.out]; simp
            go_wp2_with fail
            refine (HP.out _).mono ?_
            rintro e w5 ⟨rfl, rfl⟩
            go_wp2_with fail
            go_roundg (l.length - (i + 1))
            case measure => omega
            case rel =>
              refine ⟨i + 1, by omega, by omega, by go_num, by rw [HC1.out]; go_num, ?_⟩
              have h := HB5.out
              rw [show ((codV (someC l (madeP l n i))).set (i * 2) (.int .u32 (Y : Int))).set (i * 2 + 1) (.int .u8 (n : Int)) = codV ((someC l (madeP l n i)).set i (Y, n)) from prs_set _ i (Y, n) (by rw [someC_length]; omega), ← HCA.out, HM.out] at h
              exact h
          · have HM := Lib.hid (show someC l (madeP l n i) = someC l (madeP l n (i + 1)) from someC_congr l (fun k _ => by
              left; unfold madeP; rw [Bool.eq_iff_iff]; simp
              by_cases e : k = i
              · subst e; omega
              · omega))
            have HC1 := Lib.hid (show cnt (l.take (i + 1)) n = cnt (l.take i) n by rw [HT.out, cnt_snoc, if_neg (fun h => he h.2.symm)])
            have hd : (((nth l i : Nat) : Int) == (n : Int)) = false := by rw [beq_eq_false_iff_ne]; omega
            generalize nth l i = x at *
            go_wp2_with fail
            go_roundg (l.length - (i + 1))
            case measure => omega
            case rel => exact ⟨i + 1, by omega, by omega, by go_num, by rw [HC1.out], by rw [← HM.out]; exact hB⟩
        · obtain rfl : i = l.length := by omega
          rw [List.take_length] at *
          have HM := Lib.hid (show someC l (madeP l n l.length) = someC l (madeP l (n + 1) 0) from someC_congr l (fun k hk => by
            left; unfold madeP; rw [Bool.eq_iff_iff]; simp; omega))
          go_wp2_with fail
          go_roundg (16 - (n + 1))
          case measure => omega
          case rel => exact ⟨n + 1, by omega, by omega, by omega, by go_num, by rw [HS.out], by rw [← HM.out]; exact hB⟩
    · obtain rfl : n = 16 := by omega
      have HM := Lib.hid (show someC l (madeP l 16 0) = codesL l from someC_all l _ (fun k _ => by
        left; unfold madeP; simp; have := H15.out k; omega))
      go_wp2_with fail
      go_ret
      rw [HM.out] at hB
      exact ⟨_, _, rfl, hB⟩

/-- A code's two cells. -/
theorem Rd.cod {w : World} {A : Option Addr} {l : List (Nat × Nat)} (h : Rd w A (codV l)) {i : Nat} (hi : i < l.length) :
    ∃ b off, A = some ⟨b, off, none⟩ ∧ w.cell? ⟨b, off + i * 2, none⟩ = some (.int .u32 (((l[i]'hi).1 : Nat) : Int)) ∧ w.cell? ⟨b, off + i * 2 + 1, none⟩ = some (.int .u8 (((l[i]'hi).2 : Nat) : Int)) := by
  obtain ⟨b, off, hA, hc⟩ := h.at_ (by rw [codV_length]; omega)
  obtain ⟨h1, h2⟩ := prs_get (f := fun c : Nat × Nat => .int .u32 ((c.1 : Nat) : Int)) (g := fun c : Nat × Nat => .int .u8 ((c.2 : Nat) : Int)) l i l[i] (List.getElem?_eq_getElem hi)
  refine ⟨b, off, hA, ?_, ?_⟩
  · rw [Nat.mul_comm]; exact hc _ _ h1
  · rw [Nat.add_assoc, Nat.mul_comm i 2]; exact hc _ _ h2

end Go.Proofs.YtfcefhaaphieeaaGreat

/-
  Walks: a block's text: how many lengths are told, numbers put behind, a code put behind, how many bits there are.
-/
namespace Go.Proofs.YtfcefhaaphieeaaGreat
open Go.RowKit

/-- Numbers, cell by cell. -/
def nbV (L : List (Nat × Nat)) : List Value := prs (fun x => .int .u32 ((x.1 : Nat) : Int)) (fun x => .int .i64 ((x.2 : Nat) : Int)) L
theorem nbV_length (L : List (Nat × Nat)) : (nbV L).length = L.length * 2 := prs_length L
theorem nbV_append (L M : List (Nat × Nat)) : nbV (L ++ M) = nbV L ++ nbV M := prs_append L M
theorem nbV_one (L : List (Nat × Nat)) : ∀ u ∈ nbV L, u.oneCell' = true := prs_one (fun _ => rfl) (fun _ => rfl) L
theorem nbV_at (L : List (Nat × Nat)) (i : Nat) (h : i < L.length) : (nbV L)[i * 2]? = some (.int .u32 ((L[i].1 : Nat) : Int)) ∧ (nbV L)[i * 2 + 1]? = some (.int .i64 ((L[i].2 : Nat) : Int)) := by
  have := prs_get (f := fun x : Nat × Nat => Value.int .u32 ((x.1 : Nat) : Int)) (g := fun x => .int .i64 ((x.2 : Nat) : Int)) L i L[i] (List.getElem?_eq_getElem h)
  rw [Nat.mul_comm] at this
  exact this
theorem elem_nb : Elem Tryz.prog 41 46 2 16 := Elem.mk' (z := .agg #[.int .u32 0, .int .i64 0]) (by kernel_rfl) (by kernel_rfl) rfl (by omega)

/-- A text in a block of the call's own: it holds numbers. -/
def TxAt (W w : World) (g : Nat) (L : List (Nat × Nat)) : Prop := ∃ A c, Blk w g 43 #[.slice A L.length c] ∧ Builds W w 46 2 A L.length c (nbV L) ∧ W.heap.size ≤ g
/-- What a text's own functions leave: every block but texts and numbers. -/
def Kt (w w' : World) : Prop := w.heap.size ≤ w'.heap.size ∧ ∀ (k : Nat) (cs : Array Value) (t : TypeId) (m : Nat × Nat), w.heap[k]? = some (Obj.cells cs t m) → t ≠ 43 → t ≠ 46 → w'.heap[k]? = some (Obj.cells cs t m)
section
variable {W w w' w'' : World} {g : Nat} {L : List (Nat × Nat)}
theorem Kt.refl (w : World) : Kt w w := ⟨Nat.le_refl _, fun _ _ _ _ h _ _ => h⟩
theorem Kt.trans (h : Kt w w') (k : Kt w' w'') : Kt w w'' := ⟨Nat.le_trans h.1 k.1, fun i cs t m h0 h1 h2 => k.2 i cs t m (h.2 i cs t m h0 h1 h2) h1 h2⟩
theorem Kt.below (h : Below w.heap.size w w') : Kt w w' := ⟨h.size, fun i cs t m h0 _ _ => by
  rw [h.block i ?_]
  · exact h0
  · rcases Nat.lt_or_ge i w.heap.size with hlt | hge
    · exact hlt
    · rw [Array.getElem?_eq_none hge] at h0; cases h0⟩
theorem Kt.blk {k : Nat} {t : TypeId} {cs : Array Value} (h : Kt w w') (hb : Blk w k t cs) (h1 : t ≠ 43) (h2 : t ≠ 46) : Blk w' k t cs := h.2 k cs t (0, 0) hb h1 h2
theorem Kt.own {e : TypeId} {size n c : Nat} {A : Option Addr} {xs : List Value} (h : Kt w w') (hb : Builds W w e size A n c xs) (h1 : e ≠ 43) (h2 : e ≠ 46) (hB : Below W.heap.size W w') : Builds W w' e size A n c xs := by
  refine ⟨hB, hb.2.1, ?_⟩
  rcases hb.2.2 with h3 | ⟨gg, cap, cur, hv, hg, hh, r⟩
  · exact .inl h3
  · exact .inr ⟨gg, cap, cur, hv, hg, h.2 gg _ _ _ hh h1 h2, r⟩
theorem TxAt.bel (h : TxAt W w g L) : Below W.heap.size W w := by obtain ⟨A, c, _, h2, _⟩ := h; exact h2.1
theorem TxAt.lt (h : TxAt W w g L) : g < w.heap.size := by obtain ⟨A, c, h1, _, _⟩ := h; exact h1.lt
theorem TxAt.below (h : TxAt W w g L) (hb : Below w.heap.size w w') : TxAt W w' g L := by
  obtain ⟨A, c, h1, h2, h3⟩ := h
  exact ⟨A, c, h1.below hb h1.lt, h2.below hb, h3⟩
theorem TxAt.drewN (h : TxAt W w g L) (n : Nat) : TxAt W (w.drewN n) g L := h.below (below_drewN' (Below.refl _ _) n)
theorem TxAt.alloc (h : TxAt W w g L) (o : Obj) : TxAt W (w.alloc o) g L := h.below ((Below.refl _ _).alloc (Nat.le_refl _) o)
theorem TxAt.rd (h : TxAt W w g L) : ∃ A c, Blk w g 43 #[.slice A L.length c] ∧ Rd w A (nbV L) := by
  obtain ⟨A, c, h1, h2, _⟩ := h
  exact ⟨A, c, h1, h2.rd⟩
end

set_option maxHeartbeats 1000000 in
/-- Numbers put behind. -/
theorem add_any (W : World) (g : Nat) (L M : List (Nat × Nat)) (B : Option Addr) (m d : Nat) (w : World) (h : TxAt W w g L) (hB : Rd w B (nbV M)) (hm : m = M.length) (hn : L.length + M.length ≤ 1000000) :
    Calls Tryz.prog 23 #[.pointer (some ⟨g, 0, none⟩), .slice B m d] w fun e w' => e = .returned (.tuple #[]) ∧ TxAt W w' g (L ++ M) ∧ Kt w w' := by
  obtain ⟨A, c, h1, h2, h3⟩ := h
  have hc : w.cell? ⟨g, 0, none⟩ = some (.slice A L.length c) := h1.cell 0
  have hne := own_blk_ne h2.2 h1 (by decide)
  obtain ⟨n, hLn⟩ : ∃ n, L.length = n := ⟨_, rfl⟩
  have HL := Lib.hid hLn
  have HM := Lib.hid hm
  rw [hLn] at h1 h2 hc hne hn
  clear hLn hm
  go_enter Tryz.func23, Tryz.ntmps23
  go_wp2_with (at_builtin; refine grow elem_nb rfl (.tmp 8) (.tmp 9) rfl rfl h2 rfl hB (by rw [nbV_length, HM.out]) (nbV_one M) (n + M.length) (by rw [HM.out]) (nbV (L ++ M)) (nbV_append L M).symm (by omega) (by omega) ?_; intro A2 c2 w2 hB2 hg2; have hb2 := h1.grown hg2 (fun e => hne e.symm); have hc2 : w2.cell? ⟨g, 0, none⟩ = some (.slice A n c) := hb2.cell 0; have hf2 := hb2.frozen 0; have hlt2 := hb2.lt)
  have hne2 : g ≠ w2.heap.size := by omega
  have hX := hb2.set_ 0 (.slice A2 (n + M.length) c2)
  have hown : W.heap.size ≤ g := h3
  have hB3 : Builds W (w2.setCell ⟨g, 0, none⟩ (.slice A2 (n + M.length) c2)) 46 2 A2 (n + M.length) c2 (nbV (L ++ M)) := ⟨hB2.1.setCell h3 _, own_far hB2.2 (own_blk_ne hB2.2 hb2 (by decide)) _⟩
  have hK : Kt w (w2.setCell ⟨g, 0, none⟩ (.slice A2 (n + M.length) c2)) := by
    refine ⟨by have := hg2.size; simpa [World.setCell] using this, fun k cs t m h0 ht1 ht2 => ?_⟩
    have hk : k < w.heap.size := by
      rcases Nat.lt_or_ge k w.heap.size with hlt | hge
      · exact hlt
      · rw [Array.getElem?_eq_none hge] at h0; cases h0
    have hkg : k ≠ g := by
      rintro rfl
      unfold Blk at h1
      rw [h1] at h0
      injection h0 with h0
      injection h0 with _ h0
      exact ht1 h0.symm
    rw [Below.heap_setCell _ _ _ _ hkg, hg2.block k hk ?_]
    · exact h0
    · intro e
      rcases h2.2.2 with ⟨h5, _⟩ | ⟨gg, cap, cur, hv, _, hh, _⟩
      · rw [h5] at e; cases e
      · rw [hv] at e
        injection e with e
        simp only at e
        subst e
        rw [hh] at h0
        injection h0 with h0
        injection h0 with _ h0
        exact ht2 h0.symm
  go_end0
  exact ⟨rfl, ⟨A2, c2, by rw [List.length_append, HL.out]; exact hX, by rw [List.length_append, HL.out]; exact hB3, h3⟩, hK⟩
end Go.Proofs.YtfcefhaaphieeaaGreat
