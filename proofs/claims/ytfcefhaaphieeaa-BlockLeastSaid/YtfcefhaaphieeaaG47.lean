/-
  BlockLeast: the walk and its callees joined.
-/
import Derived.Test.YtfcefhaaphieeaaGBlkV
import Derived.Test.YtfcefhaaphieeaaGBlkY
namespace Go.Proofs.Ytfcefhaaphieeaa
open Go.RowKit

section
variable (A : Option Addr) (pn pc : Nat) (pl : List Nat) (b : Nat) (kind : Nat) (R : Option Addr) (rn rc : Nat) (raw : List Nat) (T : Option Addr) (n c : Nat) (l : List Tk) (last : Bool)
/-- Write, where the block may be and all is small. -/
theorem write_small (wx : World) (hpn : pn = pl.length) (hpc : pn ≤ pc) (hpx : ∀ x ∈ pl, x < 256) (hk0 : kind < 256) (hrn : rn = raw.length) (hrx : ∀ x ∈ raw, x < 256) (hn : n = l.length) (hk : ∀ t ∈ l, TkN t) (h1 : pn ≤ 500) (h2 : rn ≤ 500) (h3 : n ≤ 200) (hP : Pen pl b) (h0 : askK kind raw.length l = 0)
    (hA : Rd wx A (u8s pl)) (hR : Rd wx R (u8s raw)) (hT : Rd wx T (tkV l)) :
    Calls Try.prog 19 #[.agg #[.slice A pn pc, .int .i64 (b : Int)], .int .u8 (kind : Int), .slice R rn rc, .slice T n c, .bool last] wx fun e w' => ∃ X cx, e = .returned (.tuple #[.agg #[.slice X (putAll pl b (numsP (b % 8) kind raw l last)).length cx, .int .i64 ((b + lenN (numsP (b % 8) kind raw l false) : Nat) : Int)], .int .i64 0]) ∧ Builds wx w' 5 1 X (putAll pl b (numsP (b % 8) kind raw l last)).length cx (u8s (putAll pl b (numsP (b % 8) kind raw l last))) := by
  have hb4 := few_pen hP (by omega)
  have hE := wrE_ask (kind := kind) (raw := raw) (l := l) last hP (by omega) hrx (by omega) (by omega) hk
  rw [h0] at hE
  have hwn : wrNums (b : Int) kind raw l last = numsP (b % 8) kind raw l last := by unfold wrNums; rw [Int.toNat_natCast]
  have hM : wrM pl b kind raw l last = putAll pl b (numsP (b % 8) kind raw l last) := by unfold wrM; rw [hE, if_pos rfl, hwn, Int.toNat_natCast]
  have hN : wrN pl b kind raw l last = b + lenN (numsP (b % 8) kind raw l false) := by unfold wrN; rw [hE, if_pos rfl, hwn, Int.toNat_natCast, nums_last]
  have := write_any A pn pc pl b kind R rn rc raw T n c l last wx hA hpn hpc hpx (by omega) (by omega) (by omega) hk0 hR hrx hrn (by omega) hT hn (by omega) hk
  rw [hE, hM, hN] at this
  exact this.mono fun e w' ⟨h1, X, cx, h2, h3⟩ => ⟨X, cx, h2, h1, h3⟩
theorem long_small (k : Nat) (hk2 : k ≤ 2) (wx : World) (hrn : rn = raw.length) (hrx : ∀ x ∈ raw, x < 256) (hn : n = l.length) (hk : ∀ t ∈ l, TkN t) (h2 : rn ≤ 500) (h3 : n ≤ 200) (h0 : askK k raw.length l = 0) (hR : Rd wx R (u8s raw)) (hT : Rd wx T (tkV l)) :
    Calls Try.prog 9 #[.int .i64 ((b : Int) % 8), .int .u8 (k : Int), .slice R rn rc, .slice T n c] wx fun e w' => e = .returned (.tuple #[.int .i64 ((lenN (numsP (b % 8) k raw l false) : Nat) : Int), .int .i64 0]) ∧ Below wx.heap.size wx w' := by
  have := blong_any ((b % 8 : Nat) : Int) k R rn rc raw T n c l wx (by omega) (by omega) (by omega) hR hrn hrx (by omega) hT hn (by omega) hk
  rw [longV_ok (b % 8) (by omega) h0] at this
  exact this
theorem best_small (kind : Nat) (hk2 : kind ≤ 2) (wx : World) (hrn : rn = raw.length) (hrx : ∀ x ∈ raw, x < 256) (hn : n = l.length) (hk : ∀ t ∈ l, TkN t) (h2 : rn ≤ 500) (h3 : n ≤ 200) (h0 : askK kind raw.length l = 0) (hR : Rd wx R (u8s raw)) (hT : Rd wx T (tkV l)) :
    Calls Try.prog 11 #[.int .i64 ((b : Int) % 8), .slice R rn rc, .slice T n c] wx fun e w' => e = .returned (.tuple #[.int .u8 ((bestN fun k => lenN (numsP (b % 8) k raw l false) : Nat) : Int), .int .i64 0]) ∧ Below wx.heap.size wx w' := by
  have hbest : bestV ((b % 8 : Nat) : Int) raw l = (bestN fun k => lenN (numsP (b % 8) k raw l false), 0) := by
    rw [bestV_ok (b % 8) (by omega) h0]
    have hf : ∀ k, k ≤ 2 → (longV ((b % 8 : Nat) : Int) k raw l).1 = lenN (numsP (b % 8) k raw l false) := fun k hk2' => by
      rw [longV_ok (b % 8) (by omega) (by rw [ask_le k hk2', ← ask_le kind hk2]; exact h0)]
    unfold bestN
    simp only [hf 0 (by omega), hf 1 (by omega), hf 2 (by omega)]
  have := bbest_any ((b % 8 : Nat) : Int) R rn rc raw T n c l wx (by omega) (by omega) hR hrn hrx (by omega) hT hn (by omega) hk
  rw [hbest] at this
  exact this
end

theorem law_least (A : Option Addr) (pl : List Nat) (pc : Nat) (pb : Int) (kind : Nat) (R : Option Addr) (raw : List Nat) (rc : Nat) (T : Option Addr) (l : List Tk) (c : Nat) (last : Bool) (w : World)
    (hin : InBs w A pl ∧ pl.length ≤ pc) (hb1 : -9223372036854775808 ≤ pb) (hb2 : pb ≤ 9223372036854775807) (hk0 : kind < 256) (hr : InBs w R raw) (ht : InTks w T l) :
    Calls Try.prog 7 #[.agg #[.slice A pl.length pc, .int .i64 pb], .int .u8 (kind : Int), .slice R raw.length rc, .slice T l.length c, .bool last] w fun e w' => e = .returned (.bool true) ∧ Below w.heap.size w w' := by
  by_cases hs : 500 < pl.length ∨ 500 < raw.length ∨ 200 < l.length
  · exact least_out A _ pc pb kind R _ rc T _ c last w hs
  have h1 : pl.length ≤ 500 := by omega
  have h2 : raw.length ≤ 500 := by omega
  have h3 : l.length ≤ 200 := by omega
  have hA : Rd w A (u8s pl) := hin.1.1.rd hin.1.2.1
  have hR : Rd w R (u8s raw) := hr.1.rd hr.2.1
  have hpx : ∀ x ∈ pl, x < 256 := hin.1.1.2
  have hrx : ∀ x ∈ raw, x < 256 := hr.1.2
  have hk := ht.2.2
  cases hmay : mayB pl pb with
  | false => exact least_bad A _ pc pl pb kind R _ rc T _ c last w hA rfl hpx hb1 hb2 h1 h2 h3 hmay
  | true =>
    obtain ⟨b, rfl, hb, _, _⟩ := mayB_true hmay
    have hP := (Pen.of_may hpx hmay).1
    by_cases h0 : askK kind raw.length l = 0
    · have hks := (askK_zero h0).1
      have hTk := tks_of (askK_zero h0).2.2.2 hk
      have hb4 := few_pen hP h1
      have hbl := bestN_le fun k => lenN (numsP (b % 8) k raw l false)
      have hbm := bestN_min (fun k => lenN (numsP (b % 8) k raw l false)) kind hks
      have hfew := few_bits (raw := raw) (l := l) false hks hrx h2 h3 hTk (b % 8)
      obtain ⟨hPM, hbits⟩ := hP.all (numsP (b % 8) kind raw l last)
      rw [nums_last] at hPM
      have hMl := hPM.len
      have hpl := hP.len
      have hto := take_one (M := putAll pl b (numsP (b % 8) kind raw l last)) hpl (by omega) (fun i hi => by rw [hbits, if_pos hi])
      refine least_walk A _ pc pl b kind R _ rc raw T _ c l last w hA hR ht.1 h1 h2 h3 hks (putAll pl b (numsP (b % 8) kind raw l last)) (putAll pl b (numsP (b % 8) kind raw l last)).length (b + lenN (numsP (b % 8) kind raw l false)) (lenN (numsP (b % 8) kind raw l false)) (lenN (numsP (b % 8) (bestN fun k => lenN (numsP (b % 8) k raw l false)) raw l false)) (bestN fun k => lenN (numsP (b % 8) k raw l false)) _ (fun i => takeV pl i 1) rfl hb4 hfew hbm.1 hbl hbm.2 rfl ?_ ?_ ?_ ?_ ?_ ?_ ?_ ?_ ?_
      · exact fun wx h' => chk_good A _ pc pl b wx h' rfl hpx hP (by omega)
      · exact fun wx hA hR hT => write_small A _ pc pl b kind R _ rc raw T _ c l last wx rfl hin.2 hpx hk0 rfl hrx rfl hk h1 h2 h3 hP h0 hA hR hT
      · exact fun wx hR hT => long_small b R _ rc raw T _ c l kind hks wx rfl hrx rfl hk h2 h3 h0 hR hT
      · exact fun wx hR hT => long_small b R _ rc raw T _ c l _ hbl wx rfl hrx rfl hk h2 h3 (by rw [ask_le _ hbl, ← ask_le kind hks]; exact h0) hR hT
      · exact fun wx hR hT => best_small b R _ rc raw T _ c l kind hks wx rfl hrx rfl hk h2 h3 h0 hR hT
      · exact fun X cx wx h' => chk_good X _ cx _ _ wx h' rfl hPM.byte hPM (by omega)
      · intro i hi wx h'
        have := take_any A pc pl i 1 wx (rd_u8 h' hpx) (by omega) (by omega) (by omega)
        rw [(hto i hi).1] at this
        exact this
      · intro i hi X cx wx h'
        have := take_any X cx _ i 1 wx (rd_u8 h' hPM.byte) (by omega) (by omega) (by omega)
        rw [(hto i hi).2.1, (hto i hi).2.2] at this
        exact this
      · intro X cx wx h'
        have := take_any X cx _ b 3 wx (rd_u8 h' hPM.byte) (by omega) (by omega) (by omega)
        have hE3 : takeE (putAll pl b (numsP (b % 8) kind raw l last)) b 3 = 0 := by
          unfold takeE
          have hl3 : 3 ≤ lenN (numsP (b % 8) kind raw l false) := by
            unfold numsP
            rw [lenN_append]
            have : lenN (headN false kind) = 3 := rfl
            omega
          rw [if_neg (by omega), if_neg (by omega)]
        have hV : takeV (putAll pl b (numsP (b % 8) kind raw l last)) b 3 = (if last = true then 1 else 0) + 2 * kind := by
          unfold takeV
          rw [if_pos hE3, Int.toNat_natCast]; exact three_bits hP (b % 8) last hks
        rw [hE3, hV] at this
        exact this
    · exact least_ask A _ pc pl b kind R _ rc raw T _ c l last w hA rfl hin.2 hpx hk0 hR rfl hrx ht.1 rfl hk h1 h2 h3 hP h0
end Go.Proofs.Ytfcefhaaphieeaa

/-
  BlockStored: the walk and its callees joined.
-/
namespace Go.Proofs.Ytfcefhaaphieeaa
open Go.RowKit

theorem ask_none (r : Nat) (h : r ≤ 65535) : askK 0 r [] = 0 := by
  unfold askK
  rw [if_neg (by omega), if_neg (by simp; omega), if_pos (by simp)]
theorem law_stored (A : Option Addr) (pl : List Nat) (pc : Nat) (pb : Int) (R : Option Addr) (raw : List Nat) (rc : Nat) (T : Option Addr) (l : List Tk) (c : Nat) (w : World)
    (hin : InBs w A pl ∧ pl.length ≤ pc) (hb1 : -9223372036854775808 ≤ pb) (hb2 : pb ≤ 9223372036854775807) (hr : InBs w R raw) (ht : InTks w T l) :
    Calls Try.prog 6 #[.agg #[.slice A pl.length pc, .int .i64 pb], .slice R raw.length rc, .slice T l.length c] w fun e w' => e = .returned (.bool true) ∧ Below w.heap.size w w' := by
  by_cases hs : 500 < pl.length ∨ 500 < raw.length ∨ 200 < l.length
  · exact stored_out A _ pc pb R _ rc T _ c w hs
  have h1 : pl.length ≤ 500 := by omega
  have h2 : raw.length ≤ 500 := by omega
  have h3 : l.length ≤ 200 := by omega
  have hA : Rd w A (u8s pl) := hin.1.1.rd hin.1.2.1
  have hR : Rd w R (u8s raw) := hr.1.rd hr.2.1
  have hpx : ∀ x ∈ pl, x < 256 := hin.1.1.2
  have hrx : ∀ x ∈ raw, x < 256 := hr.1.2
  have hk := ht.2.2
  have ha0 := ask_none raw.length (by omega)
  cases hmay : mayB pl pb with
  | false =>
    refine stored_bad A _ pc pl pb R _ rc raw T _ c w hA hR h1 h2 h3 ?_ ?_
    · exact fun wx h' => chk_is A pc pl pb 8 wx (by unfold pchkE; rw [hmay]; rfl) (rd_u8 h' hpx) (by omega) hb1 hb2
    · intro wx hA hR
      have hE : wrE pl pb 0 raw [] false = 8 := by unfold wrE; rw [hmay]; rfl
      have := write_any A _ pc pl pb 0 R _ rc raw none 0 0 [] false wx hA rfl hin.2 hpx (by omega) hb1 hb2 (by omega) hR hrx rfl (by omega) Rd.nil_ rfl (by simp) (by simp)
      have hM : wrM pl pb 0 raw [] false = [] := by unfold wrM; rw [hE]; rfl
      have hN : wrN pl pb 0 raw [] false = 0 := by unfold wrN; rw [hE]; rfl
      rw [hE, hM, hN] at this
      exact this.mono fun e w' ⟨a, X, cx, b, _⟩ => ⟨a, X, cx, b⟩
  | true =>
    obtain ⟨b, rfl, hb, _, _⟩ := mayB_true hmay
    have hP := (Pen.of_may hpx hmay).1
    have hb4 := few_pen hP h1
    obtain ⟨hPM, hbits⟩ := hP.all (numsP (b % 8) 0 raw [] false)
    have hMl := hPM.len
    have hpad := pad_whole b
    have hlen := stored_len (b % 8) raw [] false
    have htail := stored_tail hP raw [] false hrx (by omega)
    have hML : (putAll pl b (numsP (b % 8) 0 raw [] false)).length = (b + 3 + 7) / 8 + 4 + raw.length := by omega
    have hNM : b + lenN (numsP (b % 8) 0 raw [] false) = 8 * ((b + 3 + 7) / 8 + 4 + raw.length) := by omega
    have hW : ∀ wx, Rd wx A (u8s pl) → Rd wx R (u8s raw) → Calls Try.prog 19 #[.agg #[.slice A pl.length pc, .int .i64 (b : Int)], .int .u8 0, .slice R raw.length rc, .slice none 0 0, .bool false] wx fun e w' => ∃ X cx, e = .returned (.tuple #[.agg #[.slice X ((b + 3 + 7) / 8 + 4 + raw.length) cx, .int .i64 ((b + lenN (numsP (b % 8) 0 raw [] false) : Nat) : Int)], .int .i64 0]) ∧ Builds wx w' 5 1 X ((b + 3 + 7) / 8 + 4 + raw.length) cx (u8s (putAll pl b (numsP (b % 8) 0 raw [] false))) := fun wx hA hR => by
      have := write_small A _ pc pl b 0 R _ rc raw none 0 0 [] false wx rfl hin.2 hpx (by omega) rfl hrx rfl (by simp) h1 h2 (by omega) hP ha0 hA hR Rd.nil_
      rw [hML] at this
      exact this
    have hxs : raw.length % 256 + 256 * (raw.length / 256) = raw.length := by omega
    have hxs2 : raw.length % 256 + 256 * (raw.length / 256) + ((65535 - raw.length) % 256 + 256 * ((65535 - raw.length) / 256)) = 65535 := by omega
    by_cases h0 : askK 0 raw.length l = 0
    · have hTk := tks_of (askK_zero h0).2.2.2 hk
      have hbl := bestN_le fun k => lenN (numsP (b % 8) k raw l false)
      have hbm := (bestN_min (fun k => lenN (numsP (b % 8) k raw l false)) 0 (by omega)).1
      have hl0 := stored_len (b % 8) raw l false
      refine stored_walk A _ pc pl b R _ rc raw T _ c l w hA hR ht.1 h1 h2 h3 (putAll pl b (numsP (b % 8) 0 raw [] false)) _ _ (raw.length % 256) (raw.length / 256) ((65535 - raw.length) % 256) ((65535 - raw.length) / 256) (bestN fun k => lenN (numsP (b % 8) k raw l false)) 0 (lenN (numsP (b % 8) (bestN fun k => lenN (numsP (b % 8) k raw l false)) raw l false)) 0 hb4 rfl hNM rfl hrx hxs hxs2 ⟨by omega, by omega, by omega, by omega⟩ htail hML (.inr ⟨rfl, rfl, ?_⟩) ?_ hW ?_ ?_
      · rw [hl0] at hbm; rw [hlen]; omega
      · rw [hl0] at hbm; omega
      · exact fun wx hR hT => best_small b R _ rc raw T _ c l 0 (by omega) wx rfl hrx rfl hk h2 h3 h0 hR hT
      · exact fun wx hR hT => long_small b R _ rc raw T _ c l _ hbl wx rfl hrx rfl hk h2 h3 (by rw [ask_le _ hbl]; exact h0) hR hT
    · have hln := longV_no (kind := 0) (raw := raw) (l := l) (b % 8) (by omega) h0
      have hbv : bestV ((b % 8 : Nat) : Int) raw l = (0, askK 0 raw.length l) := by
        unfold bestV
        rw [hln, if_neg h0]
      refine stored_walk A _ pc pl b R _ rc raw T _ c l w hA hR ht.1 h1 h2 h3 (putAll pl b (numsP (b % 8) 0 raw [] false)) _ _ (raw.length % 256) (raw.length / 256) ((65535 - raw.length) % 256) ((65535 - raw.length) / 256) 0 (askK 0 raw.length l) 0 (askK 0 raw.length l) hb4 rfl hNM rfl hrx hxs hxs2 ⟨by omega, by omega, by omega, by omega⟩ htail hML (.inl h0) (by omega) hW ?_ ?_
      · intro wx hR hT
        have := bbest_any ((b % 8 : Nat) : Int) R _ rc raw T _ c l wx (by omega) (by omega) hR rfl hrx (by omega) hT rfl (by omega) hk
        rw [hbv] at this
        exact this
      · intro wx hR hT
        have := blong_any ((b % 8 : Nat) : Int) 0 R _ rc raw T _ c l wx (by omega) (by omega) (by omega) hR rfl hrx (by omega) hT rfl (by omega) hk
        rw [hln] at this
        exact this
end Go.Proofs.Ytfcefhaaphieeaa
