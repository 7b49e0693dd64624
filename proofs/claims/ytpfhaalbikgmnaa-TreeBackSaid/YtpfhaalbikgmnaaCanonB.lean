/-
  Walks: count, begin, next.
-/
import Derived.Test.YtpfhaalbikgmnaaCanonA
namespace Go.Proofs.Ytpfhaalbikgmnaa
open Go.RowKit

theorem size_counts : (Try.prog.info? 78).map (·.size) = some 17 := by kernel_rfl

/-- The array of counts of some lengths. -/
def CntArr (w : World) (g : Nat) (f : Nat → Nat) : Prop := Arr w g 78 17 (w32 f)

set_option maxHeartbeats 2000000 in
theorem count_any (A : Option Addr) (c : Nat) (l : List Nat) (w : World) (hl : Bs w A l) (hm : l.length ≤ 1001) (h15 : ∀ i, nth l i ≤ 15) :
    Calls Try.prog 37 #[.slice A l.length c] w fun e w' => e = .returned (.agg (cellsOf 17 (w32 (cnt l)))) ∧ Below w.heap.size w w' := by
  have H15 := Lib.hid h15; clear h15
  go_enter Try.func37, Try.ntmps37
  go_wp2_with fail
  go_loopg [7] l.length (fun gk v wr => ∃ i : Nat, i ≤ l.length ∧ gk = l.length - i ∧ v = .int .i64 (i : Int) ∧ CntArr wr w.heap.size (cnt (l.take i)) ∧ Below w.heap.size w wr)
  case atStart => exact ⟨0, by omega, by omega, rfl, Blk.new _ _ _, (Below.refl _ _).alloc (Nat.le_refl _) _⟩
  case round =>
    obtain ⟨i, hi, hk, rfl, hC, hB⟩ := hrel
    have hl1 := hl.below hB
    by_cases hlt : i < l.length
    · obtain ⟨b, off, rfl, hcell, hx⟩ := hl1.at_ hlt
      have hx15 := H15.out i
      have hle := cnt_le (l.take i) (nth l i)
      have hle2 : (l.take i).length ≤ i := List.length_take_le _ _
      have HT := Lib.hid (take_snoc l i hlt)
      by_cases h0 : nth l i = 0
      · have HN := Lib.hid (show ∀ k, k < 17 → w32 (cnt (l.take i)) k = w32 (cnt (l.take (i + 1))) k from fun k _ => by
          unfold w32; rw [HT.out, cnt_snoc, if_neg (by omega)])
        rw [h0] at hcell
        clear h0 hle
        go_wp2_with fail
        go_roundg (l.length - (i + 1))
        case measure => omega
        case rel => exact ⟨i + 1, by omega, by omega, by go_num, Arr.congr hC HN.out, hB⟩
      · have hc0 : wr.cell? ⟨w.heap.size, nth l i, none⟩ = some (.int .u32 ((cnt (l.take i) (nth l i) : Nat) : Int)) := Arr.cell hC _ (by omega)
        have hf0 := Arr.free hC (nth l i)
        have hgl := Arr.lt hC
        have HN := Lib.hid (show ∀ k, k < 17 → (if k = nth l i then Value.int .u32 (((cnt (l.take i) (nth l i) + 1 : Nat)) : Int) else w32 (cnt (l.take i)) k) = w32 (cnt (l.take (i + 1))) k from fun k _ => by
          unfold w32; rw [HT.out, cnt_snoc]
          by_cases e : k = nth l i
          · rw [if_pos e, if_pos ⟨by omega, e⟩, e]
          · rw [if_neg e, if_neg (fun h => e h.2)])
        generalize cnt (l.take i) (nth l i) = N at *
        generalize nth l i = x at *
        go_wp2_with fail
        go_roundg (l.length - (i + 1))
        case measure => omega
        case rel => exact ⟨i + 1, by omega, by omega, by go_num, Arr.congr (Arr.set hC x _) HN.out, hB.setCell (Nat.le_refl _) _⟩
    · obtain rfl : i = l.length := by omega
      rw [List.take_length] at hC
      go_wp2_with (first
        | (refine load_arr rfl 78 (.tmp 2) rfl rfl hC Try.underlying78 rfl size_counts ?_)
        | (refine store_arr rfl 78 (.tmp 2) (.tmp 19) rfl rfl rfl hC size_counts (fun _ _ => rfl) hB (Nat.le_refl _) ?_; intro w5 hC5 hB5))
      refine bodyPost_ret (results_cell_row Try.results37 _ _ w.heap.size 78 (cellsOf 17 (w32 (cnt l))) (0, 0) _ rfl hC5 Try.underlying78 rfl (by rw [size_counts, cellsOf_size])) rfl ⟨rfl, hB5⟩
/-- The counts, the first ones turned into codes. -/
def mixF (f : Nat → Nat) (n : Nat) (k : Nat) : Nat := if k < n then frF f k else f k

set_option maxHeartbeats 2000000 in
theorem begin_any (g : Nat) (f : Nat → Nat) (w : World) (hC : CntArr w g f) (hf : ∀ n, n ≤ 16 → (frF f n + f n) * 2 ≤ 200000) :
    Calls Try.prog 38 #[.pointer (some ⟨g, 0, none⟩)] w fun e w' => e = .returned (.tuple #[]) ∧ CntArr w' g (frF f) ∧ w.grownBy w' (some g) := by
  have HF := Lib.hid hf; clear hf
  go_enter Try.func38, Try.ntmps38
  go_wp2_with fail
  go_loopg [2, 4] 17 (fun gk cv v wr => ∃ n : Nat, n ≤ 17 ∧ gk = 17 - n ∧ v = .int .i64 (n : Int) ∧ cv = .int .u32 ((frF f n : Nat) : Int) ∧ CntArr wr g (mixF f n) ∧ w.grownBy wr (some g))
  case atStart => exact ⟨0, by omega, by omega, rfl, rfl, Arr.congr hC (fun k _ => by unfold w32 mixF; rw [if_neg (by omega)]), World.grownBy.refl _ _⟩
  case round =>
    obtain ⟨n, hn, hk, rfl, rfl, hA, hG⟩ := hrel
    by_cases hlt : n < 17
    · have hb := HF.out n (by omega)
      have hc0 : wr.cell? ⟨g, n, none⟩ = some (.int .u32 ((f n : Nat) : Int)) := by
        have := Arr.cell hA n (by omega)
        rw [this]; unfold w32 mixF; rw [if_neg (by omega)]
      have hf0 := Arr.free hA n
      have hgl := Arr.lt hA
      have HS := Lib.hid (show frF f (n + 1) = (frF f n + f n) * 2 from rfl)
      have HN := Lib.hid (show ∀ k, k < 17 → (if k = n then Value.int .u32 ((frF f n : Nat) : Int) else w32 (mixF f n) k) = w32 (mixF f (n + 1)) k from fun k _ => by
        unfold w32 mixF
        by_cases e : k = n
        · rw [if_pos e, if_pos (by omega), e]
        · rw [if_neg e]
          by_cases e2 : k < n
          · rw [if_pos e2, if_pos (by omega)]
          · rw [if_neg e2, if_neg (by omega)])
      generalize frF f n = Y at *
      generalize f n = X at *
      go_wp2_with fail
      go_region
      go_wp2_with fail
      go_roundg (17 - (n + 1))
      case measure => omega
      case rel => exact ⟨n + 1, by omega, by omega, by go_num, by rw [HS.out]; go_num, Arr.congr (Arr.set (Arr.drewN hA _) n _) HN.out, only_set (only_drewN hG _) _ _⟩
    · obtain rfl : n = 17 := by omega
      go_wp2_with fail
      go_end0
      exact ⟨rfl, Arr.congr hA (fun k hk => by unfold w32 mixF; rw [if_pos hk]), hG⟩

set_option maxHeartbeats 2000000 in
theorem next_any (g n : Nat) (f : Nat → Nat) (w : World) (hC : CntArr w g f) (hn : n ≤ 15) (hf : f n ≤ 200000) :
    Calls Try.prog 39 #[.pointer (some ⟨g, 0, none⟩), .int .u8 (n : Int)] w fun e w' => e = .returned (.agg #[.int .u32 ((f n : Nat) : Int), .int .u8 (n : Int)]) ∧ CntArr w' g (fun k => if k = n then f n + 1 else f k) ∧ w.grownBy w' (some g) := by
  have hc0 : w.cell? ⟨g, n, none⟩ = some (.int .u32 ((f n : Nat) : Int)) := Arr.cell hC n (by omega)
  have hf0 := Arr.free hC n
  have hgl := Arr.lt hC
  have HN := Lib.hid (show ∀ k, k < 17 → (if k = n then Value.int .u32 ((f n + 1 : Nat) : Int) else w32 f k) = w32 (fun k => if k = n then f n + 1 else f k) k from fun k _ => by
    show _ = Value.int .u32 (((if k = n then f n + 1 else f k : Nat)) : Int)
    by_cases e : k = n
    · rw [if_pos e, if_pos e]
    · rw [if_neg e, if_neg e]; rfl)
  have HC := Lib.hid hC
  generalize f n = X at *
  go_enter Try.func39, Try.ntmps39
  go_wp2_with fail
  go_region
  go_wp2_with fail
  refine bodyPost_ret (v := .agg #[.int .u32 X, .int .u8 n]) (by simp [results, Try.results39, go_sem]) rfl ⟨rfl, ?_, ?_⟩
  · exact Arr.congr (Arr.drew (Arr.alloc (Arr.set hC n _) _)) HN.out
  · exact only_drew (only_alloc (only_set (World.grownBy.refl _ _) _ _) _)
end Go.Proofs.Ytpfhaalbikgmnaa
