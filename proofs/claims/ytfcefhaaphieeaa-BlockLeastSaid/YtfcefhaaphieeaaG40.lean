/-
  Walks: Write in one contract; is, alive: the chapter's first blocks.
-/
import Derived.Laws.IdiomStrings
import Derived.Test.YtfcefhaaphieeaaG03
import Derived.Test.YtfcefhaaphieeaaGBlkQ
namespace Go.Proofs.Ytfcefhaaphieeaa
open Go.RowKit

theorem write_any (A : Option Addr) (pn pc : Nat) (pl : List Nat) (pb : Int) (kind : Nat) (R : Option Addr) (rn rc : Nat) (raw : List Nat) (T : Option Addr) (n c : Nat) (l : List Tk) (last : Bool) (w : World)
    (hA : Rd w A (u8s pl)) (hpn : pn = pl.length) (hpc : pn ≤ pc) (hpx : ∀ x ∈ pl, x < 256) (hpl : pl.length ≤ 1000000000) (h1 : -9223372036854775808 ≤ pb) (h2 : pb ≤ 9223372036854775807) (hk0 : kind < 256) (hR : Rd w R (u8s raw)) (hx : ∀ x ∈ raw, x < 256) (hrn : rn = raw.length) (hrl : raw.length ≤ 65535)
    (hT : Rd w T (tkV l)) (hn : n = l.length) (hm : l.length ≤ 65535) (hk : ∀ t ∈ l, TkN t) :
    Calls Try.prog 19 #[.agg #[.slice A pn pc, .int .i64 pb], .int .u8 (kind : Int), .slice R rn rc, .slice T n c, .bool last] w fun e w' => PenRes w w' e (wrM pl pb kind raw l last) (wrN pl pb kind raw l last) (wrE pl pb kind raw l last) := by
  cases hmay : mayB pl pb with
  | false => exact write_bad A pn pc pl pb kind R rn rc raw T n c l last w hA hpn hpx hpl h1 h2 hmay
  | true =>
    obtain ⟨b, rfl, hb, _, _⟩ := mayB_true hmay
    have hP := (Pen.of_may hpx hmay).1
    by_cases h0 : askK kind raw.length l = 0
    · exact write_good A pn pc pl b kind R rn rc raw T n c l last w hA hpn hpc hpx hP hb hk0 hR hx hrn hrl hT hn hm hk h0
    · exact write_ask A pn pc pl b kind R rn rc raw T n c l last w hA hpn hpx hP hb hk0 hrn hrl hT hn hm hk h0

theorem rd_str (w : World) (l : List Nat) (hl : ∀ x ∈ l, x < 256) (cap : Nat) (t : TypeId) (fr : Nat × Nat) (g : Nat) (hg : g = w.heap.size) : Rd (w.alloc (.cells (bytesRow (str l) cap) t fr)) (some ⟨g, 0, none⟩) (u8s l) := by
  subst hg
  refine ⟨fun _ => ⟨_, _, rfl, fun i u hu => ?_⟩, fun e => by cases e⟩
  have h : (w.alloc (.cells (bytesRow (str l) cap) t fr)).heap[w.heap.size]? = some (.cells (bytesRow (str l) cap) t fr) := heap_alloc_new w _
  simp only [World.cell?, h, Nat.zero_add]
  have hi : i < l.length := by
    rcases Nat.lt_or_ge i l.length with h | h
    · exact h
    · rw [List.getElem?_eq_none (by rw [u8s_length]; exact h)] at hu; cases hu
  have hlt : l[i] < 256 := hl _ (List.getElem_mem hi)
  unfold u8s at hu
  rw [List.getElem?_map, List.getElem?_eq_getElem hi] at hu
  unfold bytesRow str
  simp only [List.map_toArray, List.map_map]
  rw [Array.getElem?_append_left (by simpa using hi)]
  simp only [List.getElem?_toArray, List.getElem?_map, List.getElem?_eq_getElem hi, Option.map_some, Function.comp]
  rw [← hu]
  simp only [Option.map_some, Option.some.injEq]
  congr 1
  simp
  omega

set_option maxRecDepth 100000 in
set_option maxHeartbeats 2000000 in
theorem bis_any (kind : Nat) (s : ByteArray) (raw : List Nat) (T : Option Addr) (n c : Nat) (l : List Tk) (want : ByteArray) (wl : List Nat) (N : Nat) (w : World) (hs : s = str raw) (hx : ∀ x ∈ raw, x < 256) (hrl : raw.length ≤ 65535) (hk0 : kind < 256)
    (hT : Rd w T (tkV l)) (hn : n = l.length) (hm : l.length ≤ 65535) (hk : ∀ t ∈ l, TkN t) (hw : want = str wl) (hwx : ∀ x ∈ wl, x < 256) (hE : wrE [] 0 kind raw l true = 0) (hM : wrM [] 0 kind raw l true = wl) (hN : wrN [] 0 kind raw l true = N) :
    Calls Try.prog 20 #[.int .u8 (kind : Int), .string s, .slice T n c, .string want, .int .i64 (N : Int)] w fun e w' => e = .returned (.bool true) ∧ Below w.heap.size w w' := by
  have HW := Lib.hid fun (R : Option Addr) (rc : Nat) (wx : World) (hR : Rd wx R (u8s raw)) (hT : Rd wx T (tkV l)) => write_any none 0 0 [] 0 kind R s.size rc raw T n c l true wx Rd.nil_ rfl (by omega) (by simp) (by simp) (by omega) (by omega) hk0 hR hx (by rw [hs, str_size]) hrl hT hn hm hk
  rw [hE, hM, hN] at HW
  have HS := Lib.hid hs
  have HX := Lib.hid hx
  subst hw
  have HWn := Lib.hid hwx
  clear hs hE hM hN hwx hn hk hx
  go_enter Try.func20, Try.ntmps20
  go_wp2_with fail
  rw [run_bytes_of_string w _ _ 5 s Try.underlying9 Try.underlying22 Try.underlying5]
  go_wp2_with fail
  have hrd : Rd ((w.alloc (.cells (bytesRow s (grownCap w s.size 0 5)) 5 ((bytesRow s (grownCap w s.size 0 5)).size, (bytesRow s (grownCap w s.size 0 5)).size + 1))).drew) (some ⟨w.heap.size, 0, none⟩) (u8s raw) := by
    rw [HS.out]; exact (rd_str w raw HX.out _ _ _ _ rfl).drew
  refine (HW.out _ _ _ hrd ((hT.alloc _).drew)).mono ?_
  rintro e w2 ⟨hb2, A2, c2, rfl, ho2⟩
  obtain ⟨nw, hnw⟩ : ∃ nw, wl.length = nw := ⟨_, rfl⟩
  have hb : Below w.heap.size w w2 := (((Below.refl _ _).alloc (Nat.le_refl _) _).drew).trans (hb2.mono (by simp))
  have hr2 := own_rd ho2
  rw [hnw] at ho2
  have hcv : ∀ o, (convert 22 9 (.slice A2 nw c2)).run Try.prog (w2.alloc o) = .ok (.string (str wl)) (w2.alloc o) := fun o => by
    have := conv_bytes (P := Try.prog) (w2.alloc o) 22 5 Try.underlying22 Try.underlying5 9 Try.underlying9 A2 wl c2 (rd_u8 (hr2.alloc o) HWn.out) (fun h => by have := hr2.2 h; simpa [u8s] using this)
    rw [hnw] at this
    exact this
  rw [hnw]
  clear hnw hrd hb2 ho2
  go_wp2_with fail
  go_ret
  exact ⟨rfl, hb.alloc hb.size _⟩

set_option maxRecDepth 100000 in
theorem alive_zero : wrE [] 0 0 [97, 98, 99] [] true = 0 ∧ wrM [] 0 0 [97, 98, 99] [] true = [1, 3, 0, 252, 255, 97, 98, 99] ∧ wrN [] 0 0 [97, 98, 99] [] true = 64 := by
  have e : wrNums 0 0 [97, 98, 99] [] true = headN true 0 ++ ((0, padN 0) :: rawN [97, 98, 99]) := by unfold wrNums numsP bodyP; rw [if_pos rfl]; rfl
  have h0 : wrE [] 0 0 [97, 98, 99] [] true = 0 := by unfold wrE; rw [e]; decide +kernel
  refine ⟨h0, ?_, ?_⟩
  · unfold wrM; rw [h0, if_pos rfl, e]; decide +kernel
  · unfold wrN; rw [h0, if_pos rfl, e]; decide +kernel
set_option maxRecDepth 100000 in
theorem alive_one : wrE [] 0 1 [] [⟨97, 0, 0⟩] true = 0 ∧ wrM [] 0 1 [] [⟨97, 0, 0⟩] true = [75, 4, 0] ∧ wrN [] 0 1 [] [⟨97, 0, 0⟩] true = 18 := by
  have e : wrNums 0 1 [] [⟨97, 0, 0⟩] true = headN true 1 ++ toksP (codesL longsF) (codesL farsF) (symsL [⟨97, 0, 0⟩]) := by unfold wrNums numsP bodyP; rw [if_neg (by omega), if_pos rfl]
  have h0 : wrE [] 0 1 [] [⟨97, 0, 0⟩] true = 0 := by unfold wrE; rw [e]; decide +kernel
  refine ⟨h0, ?_, ?_⟩
  · unfold wrM; rw [h0, if_pos rfl, e]; decide +kernel
  · unfold wrN; rw [h0, if_pos rfl, e]; decide +kernel

set_option maxRecDepth 100000 in
set_option maxHeartbeats 1000000 in
theorem balive11_any (w : World) : Calls Try.prog 17 #[] w fun e w' => e = .returned (.bool true) ∧ Below w.heap.size w w' := by
  have H0 := Lib.hid (show Calls Try.prog 20 #[.int .u8 0, .string ⟨#[97, 98, 99]⟩, .slice none 0 0, .string ⟨#[1, 3, 0, 252, 255, 97, 98, 99]⟩, .int .i64 64] w (fun e w' => e = .returned (.bool true) ∧ Below w.heap.size w w') from
    bis_any 0 _ [97, 98, 99] none 0 0 [] _ [1, 3, 0, 252, 255, 97, 98, 99] 64 w rfl (by decide) (by decide) (by omega) Rd.nil_ rfl (by simp) (by simp) rfl (by decide) alive_zero.1 alive_zero.2.1 alive_zero.2.2)
  have H1 := Lib.hid (fun (T : Option Addr) (c : Nat) (wx : World) (hT : Rd wx T (tkV [⟨97, 0, 0⟩])) => show Calls Try.prog 20 #[.int .u8 1, .string ⟨#[]⟩, .slice T 1 c, .string ⟨#[75, 4, 0]⟩, .int .i64 18] wx (fun e w' => e = .returned (.bool true) ∧ Below wx.heap.size wx w') from
    bis_any 1 _ [] T 1 c [⟨97, 0, 0⟩] _ [75, 4, 0] 18 wx rfl (by decide) (by decide) (by omega) hT rfl (by simp) (by simp [TkN]) rfl (by decide) alive_one.1 alive_one.2.1 alive_one.2.2)
  go_enter Try.func17, Try.ntmps17
  go_wp2_with fail
  refine H0.out.mono ?_
  rintro e w1 ⟨rfl, hb1⟩
  go_wp2_with fail
  refine (H1.out _ _ _ (Rd.new' _ _ _ _ _ rfl rfl)).mono ?_
  rintro e w2 ⟨rfl, hb2⟩
  obtain ⟨b2, _, _⟩ := box1 hb2
  go_wp2_with fail
  go_ret
  exact ⟨rfl, hb1.trans (b2.mono hb1.size)⟩
end Go.Proofs.Ytfcefhaaphieeaa

/-
  Walks: BlockFixed.
-/
namespace Go.Proofs.Ytfcefhaaphieeaa
open Go.RowKit

/-- The symbols that were seen: the first k of the order. -/
def seenV (k i : Nat) : Value := .bool (decide (i ∈ orderL.take k))
theorem order_new : ∀ k, k < 19 → nth orderL k ∉ orderL.take k := by decide
theorem seen_step (k i : Nat) (h : k < 19) : (if i = nth orderL k then Value.bool true else seenV k i) = seenV (k + 1) i := by
  unfold seenV
  rw [take_snoc orderL k h]
  by_cases e : i = nth orderL k
  · rw [if_pos e, e]; simp
  · rw [if_neg e]
    congr 1
    simp [e]

theorem err_over_longs : canE (longsF ++ [1]) 15 = 30 := by decide +kernel
theorem err_over_fars : canE (farsF ++ [15]) 15 = 30 := by decide +kernel
theorem err_under_longs : canE (longsF.take 287) 15 = 31 := by decide +kernel

set_option maxRecDepth 100000 in
set_option maxHeartbeats 4000000 in
theorem law_fixed (w : World) : Calls Try.prog 4 #[] w fun e w' => e = .returned (.bool true) ∧ Below w.heap.size w w' := by
  have HFx := Lib.hid fun wx => show Calls Try.prog 8 #[] wx (fun e w' => ∃ A c B d nB, e = .returned (.tuple #[.slice A 288 c, .slice B nB d]) ∧ Builds wx w' 5 1 A 288 c (u8s longsF) ∧ Builds wx w' 5 1 B nB d (u8s farsF) ∧ (Value.slice A 288 c).ownBlock ≠ (Value.slice B nB d).ownBlock ∧ nB = 32) from
    (fixed_apart wx).mono fun _ _ ⟨A, c, B, d, h1, h2, h3, h4⟩ => ⟨A, c, B, d, 32, h1, h2, h3, h4, rfl⟩
  go_enter Try.func4, Try.ntmps4
  go_wp2_with fail
  refine (HFx.out _).mono ?_
  rintro e w1 ⟨A, cA, B, cB, nB, rfl, hA, hB, hAB, hnB⟩
  have HNB := Lib.hid hnB
  have dNB : ((nB : Int) == 32) = true := by rw [hnB]; rfl
  have leB : nB ≤ 32 := by omega
  clear hnB
  have AB := Lib.hid hAB
  clear hAB
  go_wp2_with fail
  refine (order_any _).mono ?_
  rintro e w2 ⟨rfl, hb2⟩
  have hA := hA.below hb2
  have hB := hB.below hb2
  clear hb2
  go_wp2_with (refine wpList_store_new rfl _ _ _ rfl _ orderV rfl rfl (by simp) _ _ (by kernel_rfl) rfl (by kernel_rfl) ?_)
  have kO : Blk (w2.alloc (.cells orderV 36)) w2.heap.size 36 orderV := Blk.new _ _ _
  have hA := hA.alloc (.cells orderV 36)
  have hB := hB.alloc (.cells orderV 36)
  have hgo : w2.heap.size < (w2.alloc (.cells orderV 36)).heap.size := by simp
  have hsz : (w2.alloc (.cells orderV 36)).heap.size = w2.heap.size + 1 := by simp
  generalize hw3 : w2.alloc (.cells orderV 36) = w3 at *
  rw [← hsz]
  generalize w2.heap.size = gO at *
  clear hw3 hsz
  have hA0 : Arr (w3.alloc (.cells (cellsOf 19 (seenV 0)) 39)) w3.heap.size 39 19 (seenV 0) := Blk.new _ _ _
  have hb0 : Below w3.heap.size w3 (w3.alloc (.cells (cellsOf 19 (seenV 0)) 39)) := (Below.refl _ _).alloc (Nat.le_refl _) _
  obtain ⟨gS, hgS⟩ : ∃ gS, w3.heap.size = gS := ⟨_, rfl⟩
  have hg3 : w3.heap.size ≤ gS := by omega
  have hgo3 : gO < w3.heap.size := hgo
  rw [hgS] at hA0
  have HGS := Lib.hid hgS
  rw [hgS]
  clear hgS hgo
  go_loopg [5] 19 (fun gk v5 wr => ∃ k : Nat, k ≤ 19 ∧ gk = 19 - k ∧ v5 = .int .i64 (k : Int) ∧ Below w3.heap.size w3 wr ∧ Arr wr gS 39 19 (seenV k))
  case atStart => exact ⟨0, by omega, rfl, rfl, hb0, hA0⟩
  case round =>
    clear hA0 hb0
    obtain ⟨k, hk, hgk, rfl, hb, hS⟩ := hrel
    have HG := Lib.hid hgk
    clear hgk
    by_cases hlt : k < 19
    · have hX := order_lt k
      have hN := order_new k hlt
      have hst := fun i => seen_step k i hlt
      have cO := Blk.cell (Blk.below kO hb hgo3) k
      rw [show orderV[k]? = some (.int .i64 ((nth orderL k : Nat) : Int)) by
        unfold orderV
        have hl : k < orderL.length := hlt
        simp [nth, List.getElem?_eq_getElem hl]] at cO
      have hgol := cell_lt cO
      have cS := hS.cell (nth orderL k) hX
      have fS := hS.free (nth orderL k)
      have hsl := hS.lt
      have e0 : seenV k (nth orderL k) = .bool false := by unfold seenV; rw [decide_eq_false hN]
      rw [e0] at cS
      generalize nth orderL k = X at *
      have d1 : decide ((X : Int) < 0) = false := decide_eq_false (by omega)
      have d2 : decide ((X : Int) > 18) = false := decide_eq_false (by omega)
      have HST := Lib.hid hst
      clear hst hN e0
      go_wp2_with fail
      go_roundg (19 - (k + 1))
      case measure => have := HG.out; omega
      case rel => exact ⟨k + 1, by omega, rfl, by go_num, hb.setCell hg3 _, (hS.set X _).congr fun i _ => HST.out i⟩
    · obtain rfl : k = 19 := by omega
      have hA := hA.below hb
      have hB := hB.below hb
      have HCk := Lib.hid fun (C : Option Addr) (cc n : Nat) (l : List Nat) (wx : World) (E : Nat) (hr : Rd wx C (u8s l)) (hx : ∀ x ∈ l, x < 256) (hn : n = l.length) (hm : l.length ≤ 1000) (hE : canE l 15 = E) => show Calls Try.prog 18 #[.slice C n cc, .int .i64 15] wx (fun e w' => e = .returned (.int .i64 (E : Int)) ∧ Below wx.heap.size wx w') from by
        subst hn
        have := check_any C cc l 15 wx (rd_u8 hr hx) (by omega) (by omega) (by omega)
        rw [hE] at this
        exact this.mono fun _ _ ⟨a, b⟩ => ⟨a, by rw [b]; exact Below.refl _ _⟩
      clear kO hb hS hlt
      go_wp2_with fail
      refine (balive11_any _).mono ?_
      rintro e w4 ⟨rfl, hb4⟩
      have hA := hA.below hb4
      have hB := hB.below hb4
      clear hb4
      have L1 : (longsF ++ [1]).length = 289 := by decide +kernel
      have L2 : (farsF ++ [15]).length = 33 := by decide +kernel
      have L3 : (longsF.take 287).length = 287 := by decide +kernel
      have X1 : ∀ x ∈ longsF ++ [1], x < 256 := by decide +kernel
      have X2 : ∀ x ∈ farsF ++ [15], x < 256 := by decide +kernel
      have X3 : ∀ x ∈ longsF.take 287, x < 256 := by decide +kernel
      have HX := Lib.hid (And.intro X1 (And.intro X2 X3))
      have HL := Lib.hid (And.intro L1 (And.intro L2 L3))
      have cA1 := hA.cap
      clear X1 X2 X3 L1 L2 L3
      go_wp2_with fail
      refine wp_grow_old belem_u8 (.tmp 48) (.tmp 49) rfl rfl (hA.alloc _) rfl (Rd.new' _ _ _ (u8s [1]) _ (by simp) rfl) rfl (u8s_one _) 289 rfl (u8s (longsF ++ [1])) (u8s_append _ _).symm (by omega) (by omega) ?_
      intro A5 c5 w5 hA5 hg5 rA
      have rB : w5.ownsRow w.heap.size 5 1 (.slice B nB cB) nB (u8s farsF) := (hB.2.alloc _).kept hg5 (.inr fun e => AB.out e.symm)
      go_wp2_with fail
      refine (HCk.out A5 c5 289 (longsF ++ [1]) _ 30 hA5.rd HX.out.1 HL.out.1.symm (by rw [HL.out.1]; omega) err_over_longs).mono ?_
      rintro e w6 ⟨rfl, hb6⟩
      have b6 := hA5.1.trans (hb6.mono hA5.1.size)
      have hB6 : Builds w w6 5 1 B nB cB (u8s farsF) := ⟨b6, own_below rB hb6⟩
      have rA6 := rA.below hb6
      clear hA5 hg5 rA rB hb6 hA hB
      go_wp2_with (at_builtin; go_loud (refine grow_old_g belem_u8 rfl (.tmp 55) (.tmp 56) rfl rfl (hB6.alloc _) rfl (Rd.new' _ _ _ (u8s [15]) _ rfl rfl) rfl (u8s_one _) (nB + 1) rfl (u8s (farsF ++ [15])) (u8s_append _ _).symm (by omega) (by omega) ?_; intro A7 c7 w7 hB7 hg7 hr7))
      have rA7 : Rd w7 A (u8s longsF) := rd_kept (n := 288) (c := cA) (rA6.alloc _) hg7 AB.out
      go_wp2_with fail
      refine (HCk.out A7 c7 (nB + 1) (farsF ++ [15]) _ 30 hB7.rd HX.out.2.1 (by rw [HL.out.2.1, HNB.out]) (by rw [HL.out.2.1]; omega) err_over_fars).mono ?_
      rintro e w8 ⟨rfl, hb8⟩
      have b8 := hB7.1.trans (hb8.mono hB7.1.size)
      have rA8 : Rd w8 A (u8s (longsF.take 287)) := by
        have := (rA7.below hb8).take 287
        unfold u8s at this ⊢
        rw [List.map_take]; exact this
      have i1 : (287 : Int) ≤ (cA : Int) := by omega
      have i2 : 287 ≤ cA := by omega
      clear hB7 hg7 rA7 rA6 hb8 hB6 b6
      go_wp2_with fail
      refine (HCk.out A cA 287 (longsF.take 287) _ 31 rA8 HX.out.2.2 HL.out.2.2.symm (by rw [HL.out.2.2]; omega) err_under_longs).mono ?_
      rintro e w9 ⟨rfl, hb9⟩
      go_wp2_with fail
      go_ret
      exact ⟨rfl, b8.trans (hb9.mono b8.size)⟩
end Go.Proofs.Ytfcefhaaphieeaa
