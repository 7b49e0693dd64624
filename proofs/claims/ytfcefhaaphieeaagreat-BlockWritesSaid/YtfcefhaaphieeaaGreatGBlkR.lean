/-
  Walks: Write in one contract; is, alive: the chapter's first blocks.
-/
import Derived.Laws.IdiomStrings
import Derived.Test.YtfcefhaaphieeaaGreatGBlkQ
namespace Go.Proofs.YtfcefhaaphieeaaGreat
open Go.RowKit

theorem write_any (A : Option Addr) (pn pc : Nat) (pl : List Nat) (pb : Int) (kind : Nat) (R : Option Addr) (rn rc : Nat) (raw : List Nat) (T : Option Addr) (n c : Nat) (l : List Tk) (last : Bool) (w : World)
    (hA : Rd w A (u8s pl)) (hpn : pn = pl.length) (hpc : pn ≤ pc) (hpx : ∀ x ∈ pl, x < 256) (hpl : pl.length ≤ 1000000000) (h1 : -9223372036854775808 ≤ pb) (h2 : pb ≤ 9223372036854775807) (hk0 : kind < 256) (hR : Rd w R (u8s raw)) (hx : ∀ x ∈ raw, x < 256) (hrn : rn = raw.length) (hrl : raw.length ≤ 65535)
    (hT : Rd w T (tkV l)) (hn : n = l.length) (hm : l.length ≤ 65535) (hk : ∀ t ∈ l, TkN t) :
    Calls Tryz.prog 5 #[.agg #[.slice A pn pc, .int .i64 pb], .int .u8 (kind : Int), .slice R rn rc, .slice T n c, .bool last] w fun e w' => PenRes w w' e (wrM pl pb kind raw l last) (wrN pl pb kind raw l last) (wrE pl pb kind raw l last) := by
  cases hmay : mayB pl pb with
  | false => exact write_bad A pn pc pl pb kind R rn rc raw T n c l last w hA hpn hpx hpl h1 h2 hmay
  | true =>
    obtain ⟨b, rfl, hb, _, _⟩ := mayB_true hmay
    have hP := (Pen.of_may hpx hmay).1
    by_cases h0 : askK kind raw.length l = 0
    · exact write_good A pn pc pl b kind R rn rc raw T n c l last w hA hpn hpc hpx hP hb hk0 hR hx hrn hrl hT hn hm hk h0
    · exact write_ask A pn pc pl b kind R rn rc raw T n c l last w hA hpn hpx hP hb hk0 hrn hrl hT hn hm hk h0

theorem rd_str (w : World) (l : List Nat) (hl : ∀ x ∈ l, x < 256) (cap : Nat) (t : TypeId) (fr : Nat × Nat) (g : Nat) (hg : g = w.heap.size) : Rd (w.alloc (.cells (bytesRow (str l) cap) t fr)) (some ⟨g, 0, none⟩) (u8s l) := by
  subst hg
  refine ⟨fun _ => ⟨_, _, rfl, fun i u hu => ?_⟩, fun e => by cases e⟩
  have h : (w.alloc (.cells (bytesRow (str l) cap) t fr)).heap[w.heap.size]? = some (.cells (bytesRow (str l) cap) t fr) := heap_alloc_new w _
  simp only [World.cell?, h, Nat.zero_add]
  have hi : i < l.length := by
    rcases Nat.lt_or_ge i l.length with h | h
    · exact h
    · rw [List.getElem?_eq_none (by rw [u8s_length]; exact h)] at hu; cases hu
  have hlt : l[i] < 256 := hl _ (List.getElem_mem hi)
  unfold u8s at hu
  rw [List.getElem?_map, List.getElem?_eq_getElem hi] at hu
  unfold bytesRow str
  simp only [List.map_toArray, List.map_map]
  rw [Array.getElem?_append_left (by simpa using hi)]
  simp only [List.getElem?_toArray, List.getElem?_map, List.getElem?_eq_getElem hi, Option.map_some, Function.comp]
  rw [← hu]
  simp only [Option.map_some, Option.some.injEq]
  congr 1
  simp
  omega

set_option maxRecDepth 100000 in
theorem alive_zero : wrE [] 0 0 [97, 98, 99] [] true = 0 ∧ wrM [] 0 0 [97, 98, 99] [] true = [1, 3, 0, 252, 255, 97, 98, 99] ∧ wrN [] 0 0 [97, 98, 99] [] true = 64 := by
  have e : wrNums 0 0 [97, 98, 99] [] true = headN true 0 ++ ((0, padN 0) :: rawN [97, 98, 99]) := by unfold wrNums numsP bodyP; rw [if_pos rfl]; rfl
  have h0 : wrE [] 0 0 [97, 98, 99] [] true = 0 := by unfold wrE; rw [e]; decide +kernel
  refine ⟨h0, ?_, ?_⟩
  · unfold wrM; rw [h0, if_pos rfl, e]; decide +kernel
  · unfold wrN; rw [h0, if_pos rfl, e]; decide +kernel
set_option maxRecDepth 100000 in
theorem alive_one : wrE [] 0 1 [] [⟨97, 0, 0⟩] true = 0 ∧ wrM [] 0 1 [] [⟨97, 0, 0⟩] true = [75, 4, 0] ∧ wrN [] 0 1 [] [⟨97, 0, 0⟩] true = 18 := by
  have e : wrNums 0 1 [] [⟨97, 0, 0⟩] true = headN true 1 ++ toksP (codesL longsF) (codesL farsF) (symsL [⟨97, 0, 0⟩]) := by unfold wrNums numsP bodyP; rw [if_neg (by omega), if_pos rfl]
  have h0 : wrE [] 0 1 [] [⟨97, 0, 0⟩] true = 0 := by unfold wrE; rw [e]; decide +kernel
  refine ⟨h0, ?_, ?_⟩
  · unfold wrM; rw [h0, if_pos rfl, e]; decide +kernel
  · unfold wrN; rw [h0, if_pos rfl, e]; decide +kernel

end Go.Proofs.YtfcefhaaphieeaaGreat
