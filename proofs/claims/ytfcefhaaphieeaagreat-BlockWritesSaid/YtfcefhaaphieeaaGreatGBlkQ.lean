/-
  Walks: Write.
-/
import Derived.Test.YtfcefhaaphieeaaGreatG05
import Derived.Test.YtfcefhaaphieeaaGreatG38
import Derived.Test.YtfcefhaaphieeaaGreatGExt
import Derived.Test.YtfcefhaaphieeaaGreatGPenG
namespace Go.Proofs.YtfcefhaaphieeaaGreat
open Go.RowKit
open Go.ChangeShapes

/-- What Write answers. -/
noncomputable def wrNums (pb : Int) (kind : Nat) (raw : List Nat) (l : List Tk) (last : Bool) : List (Nat × Nat) := numsP (pb.toNat % 8) kind raw l last
noncomputable def wrE (pl : List Nat) (pb : Int) (kind : Nat) (raw : List Nat) (l : List Tk) (last : Bool) : Nat :=
  if mayB pl pb = true then if askK kind raw.length l = 0 then if 8388608 < pb.toNat + lenN (wrNums pb kind raw l last) then 9 else 0 else askK kind raw.length l else 8
noncomputable def wrM (pl : List Nat) (pb : Int) (kind : Nat) (raw : List Nat) (l : List Tk) (last : Bool) : List Nat := if wrE pl pb kind raw l last = 0 then putAll pl pb.toNat (wrNums pb kind raw l last) else []
noncomputable def wrN (pl : List Nat) (pb : Int) (kind : Nat) (raw : List Nat) (l : List Tk) (last : Bool) : Nat := if wrE pl pb kind raw l last = 0 then pb.toNat + lenN (wrNums pb kind raw l last) else 0

theorem PenRes.one {w w' : World} {e : Ending} {pl : List Nat} {pb : Int} {kind : Nat} {raw : List Nat} {l : List Tk} {last : Bool} {E : Nat} (hE : wrE pl pb kind raw l last = E) (h0 : E ≠ 0) (hb : Below w.heap.size w w') (he : e = .returned (.tuple #[.agg #[.slice none 0 0, .int .i64 0], .int .i64 (E : Int)])) :
    PenRes w w' e (wrM pl pb kind raw l last) (wrN pl pb kind raw l last) (wrE pl pb kind raw l last) := by
  unfold wrM wrN
  rw [hE, if_neg h0, if_neg h0]
  exact PenRes.none_ hb he

set_option maxRecDepth 100000 in
set_option maxHeartbeats 4000000 in
theorem write_bad (A : Option Addr) (pn pc : Nat) (pl : List Nat) (pb : Int) (kind : Nat) (R : Option Addr) (rn rc : Nat) (raw : List Nat) (T : Option Addr) (n c : Nat) (l : List Tk) (last : Bool) (w : World)
    (hA : Rd w A (u8s pl)) (hpn : pn = pl.length) (hpx : ∀ x ∈ pl, x < 256) (hpl : pl.length ≤ 1000000000) (h1 : -9223372036854775808 ≤ pb) (h2 : pb ≤ 9223372036854775807) (h : mayB pl pb = false) :
    Calls Tryz.prog 5 #[.agg #[.slice A pn pc, .int .i64 pb], .int .u8 (kind : Int), .slice R rn rc, .slice T n c, .bool last] w fun e w' => PenRes w w' e (wrM pl pb kind raw l last) (wrN pl pb kind raw l last) (wrE pl pb kind raw l last) := by
  have HC := Lib.hid fun wx (h : Rd wx A (u8s pl)) => show Calls Tryz.prog 9 #[.agg #[.slice A pn pc, .int .i64 pb]] wx (fun e w' => e = .returned (.int .i64 (8 : Int)) ∧ Below wx.heap.size wx w') from by
    subst hpn
    exact chk_is A pc pl pb 8 wx (by unfold pchkE; rw [‹mayB pl pb = false›]; rfl) (rd_u8 h hpx) hpl h1 h2
  have HR := Lib.hid fun w' e hb he => PenRes.one (w := w) (w' := w') (e := e) (pl := pl) (pb := pb) (kind := kind) (raw := raw) (l := l) (last := last) (E := 8) (by unfold wrE; rw [h]; rfl) (by omega) hb he
  clear h hpn hpx hpl
  go_enter Tryz.func5, Tryz.ntmps5
  go_wp2_with fail
  refine (HC.out _ ((hA.alloc _).alloc _)).mono ?_
  rintro e w1 ⟨rfl, hb1⟩
  obtain ⟨b1, z1, z2, k1, k2⟩ := box2 hb1
  have c1 := Blk.cells k1
  have c2 := Blk.cells k2
  have f2 := Blk.frozens k2
  clear hb1
  go_wp2_with fail
  refine bodyPost_ret (v := .tuple #[.agg #[.slice none 0 0, .int .i64 0], .int .i64 8]) (by simp [results, Tryz.results5, go_sem, c2]) rfl (HR.out _ _ ?_ rfl)
  exact (b1.setCell (by simp) _).setCell (by simp) _

/-- Checks that a good pen's Write asks first. -/
theorem chk_good (A : Option Addr) (pn pc : Nat) (pl : List Nat) (b : Nat) (wx : World) (h : Rd wx A (u8s pl)) (hpn : pn = pl.length) (hpx : ∀ x ∈ pl, x < 256) (hP : Pen pl b) (hb : b ≤ 8388608) :
    Calls Tryz.prog 9 #[.agg #[.slice A pn pc, .int .i64 (b : Int)]] wx fun e w' => e = .returned (.int .i64 0) ∧ Below wx.heap.size wx w' := by
  subst hpn
  have hl := hP.len
  exact chk_is A pc pl b 0 wx (by unfold pchkE; rw [hP.may hb]; rfl) (rd_u8 h hpx) (by omega) (by omega) (by omega)

set_option maxRecDepth 100000 in
set_option maxHeartbeats 4000000 in
theorem write_ask (A : Option Addr) (pn pc : Nat) (pl : List Nat) (b : Nat) (kind : Nat) (R : Option Addr) (rn rc : Nat) (raw : List Nat) (T : Option Addr) (n c : Nat) (l : List Tk) (last : Bool) (w : World)
    (hA : Rd w A (u8s pl)) (hpn : pn = pl.length) (hpx : ∀ x ∈ pl, x < 256) (hP : Pen pl b) (hb : b ≤ 8388608) (hk0 : kind < 256) (hrn : rn = raw.length) (hrl : raw.length ≤ 65535)
    (hT : Rd w T (tkV l)) (hn : n = l.length) (hm : l.length ≤ 65535) (hk : ∀ t ∈ l, TkN t) (h0 : askK kind raw.length l ≠ 0) :
    Calls Tryz.prog 5 #[.agg #[.slice A pn pc, .int .i64 (b : Int)], .int .u8 (kind : Int), .slice R rn rc, .slice T n c, .bool last] w fun e w' => PenRes w w' e (wrM pl b kind raw l last) (wrN pl b kind raw l last) (wrE pl b kind raw l last) := by
  have HC := Lib.hid fun wx h => chk_good A pn pc pl b wx h hpn hpx hP hb
  have HQ := Lib.hid fun wx hT => baskd_any kind R rn rc T n c l wx hk0 (by omega) hT hn hm hk
  have HR := Lib.hid fun w' e hb' he => PenRes.one (w := w) (w' := w') (e := e) (pl := pl) (pb := b) (kind := kind) (raw := raw) (l := l) (last := last) (E := askK kind raw.length l) (by unfold wrE; rw [hP.may hb, if_pos rfl, if_neg h0]) h0 hb' he
  rw [← hrn] at HR h0
  generalize askK kind rn l = E at *
  have hE : ¬ ((E : Int) = 0) := by omega
  clear hpn hpx hrn hrl hn hm hk hP h0
  go_enter Tryz.func5, Tryz.ntmps5
  go_wp2_with fail
  refine (HC.out _ ((hA.alloc _).alloc _)).mono ?_
  rintro e w1 ⟨rfl, hb1⟩
  obtain ⟨b1, z1, z2, k1, k2⟩ := box2 hb1
  clear hb1
  go_wp2_with fail
  refine (HQ.out _ (hT.below b1)).mono ?_
  rintro e w2 ⟨rfl, hb2⟩
  have k2 := Blk.below k2 hb2 z2
  have z2 : w.heap.size + 1 < w2.heap.size := Nat.lt_of_lt_of_le z2 hb2.size
  have b2 := b1.trans (hb2.mono b1.size)
  have c2 := Blk.cells k2
  have f2 := Blk.frozens k2
  clear hb2 z1 k1
  go_wp2_with fail
  refine bodyPost_ret (v := .tuple #[.agg #[.slice none 0 0, .int .i64 0], .int .i64 (E : Int)]) (by simp [results, Tryz.results5, go_sem, c2]) rfl (HR.out _ _ ?_ rfl)
  exact (b2.setCell (by simp) _).setCell (by simp) _

theorem Builds.far2 {W w : World} {e : TypeId} {size n c g : Nat} {A : Option Addr} {xs : List Value} {t : TypeId} {cs : Array Value} (h : Builds W w e size A n c xs) (hk : Blk w g t cs) (ht : e ≠ t) (hg : W.heap.size ≤ g) (i j : Nat) (a b : Value) :
    Builds W ((w.setCell ⟨g, i, none⟩ a).setCell ⟨g, j, none⟩ b) e size A n c xs := by
  have hne := own_blk_ne h.2 hk ht
  exact ⟨(h.1.setCell hg a).setCell hg b, own_far (own_far h.2 (p := ⟨g, i, none⟩) hne a) (p := ⟨g, j, none⟩) hne b⟩
theorem Builds.other {W w w' : World} {e e' : TypeId} {size n c size' n' c' : Nat} {A A' : Option Addr} {xs xs' : List Value} (h : Builds W w e size A n c xs) (h' : Builds W w e' size' A' n' c' xs') (hne : e ≠ e') (hg : w.grownBy w' (Value.slice A' n' c').ownBlock) :
    Builds W w' e size A n c xs := by
  refine ⟨h.1.grown hg h.1.size (fun k hk => (h'.2.lt k hk).1), h.2.kept hg ?_⟩
  rcases h'.2.2 with ⟨h1, _⟩ | ⟨g, cap, cur, hv, _, hh, _⟩
  · rcases h.2.2 with ⟨h2, _⟩ | ⟨g2, cap2, cur2, hv2, _⟩
    · left; rw [h2]; rfl
    · right; rw [h1, hv2]; simp [Value.ownBlock]
  · right
    rw [hv]
    exact own_blk_ne h.2 (show Blk w g e' cur from hh) hne
theorem Blk.other {W w w' : World} {g : Nat} {t e' : TypeId} {cs : Array Value} {size' n' c' : Nat} {A' : Option Addr} {xs' : List Value} (h : Blk w g t cs) (h' : Builds W w e' size' A' n' c' xs') (hne : e' ≠ t) (hg : w.grownBy w' (Value.slice A' n' c').ownBlock) : Blk w' g t cs :=
  h.grown hg fun e => own_blk_ne h'.2 h hne e.symm

theorem own_kept_new {w w' : World} {base e size n : Nat} {v : Value} {xs : List Value} {row : Option Nat} (h : w.ownsRow base e size v n xs) (hg : w.grownBy w' row) (hr : ∀ k, row = some k → k < base) : w'.ownsRow base e size v n xs := by
  refine h.kept hg ?_
  rcases h.2 with ⟨h1, _⟩ | ⟨g, cap, cur, hv, hb, _⟩
  · left; rw [h1]; rfl
  · right
    rw [hv]
    intro e
    have := hr g e.symm
    omega

theorem wrap_sum (no bb s : Nat) (h : 8 * no + bb = s) (hs : s ≤ 1000000000) : IntKind.i64.wrap (IntKind.i64.wrap (8 * (no : Int)) + (bb : Int)) = ((s : Nat) : Int) := by
  rw [IntKind.wrap_i64, IntKind.wrap_i64]; omega

/-- Write's loop: what lies in memory. -/
structure WrJ (W : World) (gE gR : Nat) (AL : Option Addr) (m cL : Nat) (L : List (Nat × Nat)) (O : Option Addr) (no co : Nat) (o : List Nat) (B : Option Addr) (ne ce : Nat) (e : List Nat) (bb : Nat) (w : World) : Prop where
  ow : Builds W w 5 1 O no co (u8s o)
  kE : Blk w gE 24 #[.slice B ne ce, .int .i64 (bb : Int)]
  kR : Blk w gR 24 #[.slice none 0 0, .int .i64 0]
  re : Rd w B (u8s e)
  nl : Builds W w 46 2 AL m cL (nbV L)
  hc : ne ≤ ce

/-- .. and what it says. -/
def WrP (pl : List Nat) (b : Nat) (L : List (Nat × Nat)) (k : Nat) (o e : List Nat) (bb no ne : Nat) : Prop :=
  Pen e bb ∧ bb < 8 ∧ o ++ e = putAll pl b (L.take k) ∧ 8 * o.length + bb = b + lenN (L.take k) ∧ o.length = no ∧ e.length = ne
theorem WrP.step {pl : List Nat} {b : Nat} {L : List (Nat × Nat)} {k : Nat} {o e : List Nat} {bb no ne : Nat} (h : WrP pl b L k o e bb no ne) (hk : k < L.length) {pe : List Nat} {np bs z r : Nat} (hpe : putL e bb L[k].1 L[k].2 = pe) (hnp : pe.length = np) (hbs : bb + L[k].2 = bs) (hz : bs / 8 = z) (hr : bs % 8 = r) :
    WrP pl b L (k + 1) (o ++ pe.take z) (pe.drop z) r (no + z) (np - z) ∧ z ≤ np := by
  obtain ⟨h1, h2, h3, h4, h5, h6⟩ := h
  obtain ⟨a1, a2, a3, a4⟩ := write_step hk h1 h3 h4
  rw [hpe, hbs, hz, hr] at a1
  rw [hpe, hbs, hz] at a2 a3
  rw [hbs, hz, hr] at a4
  refine ⟨⟨a1, by omega, a3, ?_, ?_, ?_⟩, by omega⟩
  · rw [List.length_append, List.length_take]; rw [← a4]; congr 2; congr 1; omega
  · rw [List.length_append, List.length_take]; omega
  · rw [List.length_drop]; omega
theorem WrP.start {pl : List Nat} {b : Nat} (h : Pen pl b) (L : List (Nat × Nat)) {q r pn : Nat} (hq : b / 8 = q) (hr : b % 8 = r) (hn : pn = pl.length) (hle : q ≤ pn) : WrP pl b L 0 (pl.take q) (pl.drop q) r q (pn - q) := by
  have hd := h.drop
  rw [hq, hr] at hd
  refine ⟨hd, by omega, by simp [putAll], ?_, ?_, ?_⟩
  · rw [List.length_take]; simp [lenN]; omega
  · rw [List.length_take]; omega
  · rw [List.length_drop]; omega

set_option maxRecDepth 100000 in
set_option maxHeartbeats 4000000 in
theorem write_good (A : Option Addr) (pn pc : Nat) (pl : List Nat) (b : Nat) (kind : Nat) (R : Option Addr) (rn rc : Nat) (raw : List Nat) (T : Option Addr) (n c : Nat) (l : List Tk) (last : Bool) (w : World)
    (hA : Rd w A (u8s pl)) (hpn : pn = pl.length) (hpc : pn ≤ pc) (hpx : ∀ x ∈ pl, x < 256) (hP : Pen pl b) (hb : b ≤ 8388608) (hk0 : kind < 256) (hR : Rd w R (u8s raw)) (hx : ∀ x ∈ raw, x < 256) (hrn : rn = raw.length) (hrl : raw.length ≤ 65535)
    (hT : Rd w T (tkV l)) (hn : n = l.length) (hm : l.length ≤ 65535) (hk : ∀ t ∈ l, TkN t) (h0 : askK kind raw.length l = 0) :
    Calls Tryz.prog 5 #[.agg #[.slice A pn pc, .int .i64 (b : Int)], .int .u8 (kind : Int), .slice R rn rc, .slice T n c, .bool last] w fun e w' => PenRes w w' e (wrM pl b kind raw l last) (wrN pl b kind raw l last) (wrE pl b kind raw l last) := by
  have HC := Lib.hid fun wx h => chk_good A pn pc pl b wx h hpn hpx hP hb
  obtain ⟨k1, _, _, k4⟩ := askK_zero h0
  have hks := tks_of k4 hk
  have HQ := Lib.hid fun wx hT => baskd_any kind R rn rc T n c l wx hk0 (by omega) hT hn hm hk
  have h0' : askK kind rn l = 0 := by rw [hrn]; exact h0
  rw [h0'] at HQ
  have HO := Lib.hid fun wx (hR : Rd wx R (u8s raw)) (hT : Rd wx T (tkV l)) => show Calls Tryz.prog 11 #[.int .i64 ((b : Int) % 8), .int .u8 (kind : Int), .slice R rn rc, .slice T n c, .bool last] wx (fun e w' => ∃ g, e = .returned (.pointer (some ⟨g, 0, none⟩)) ∧ TxAt wx w' g (numsP (b % 8) kind raw l last)) from of_any (b % 8) kind R rn rc raw T n c l last wx (by omega) k1 hR hrn hx hrl hT hn hm hks
  have q1 := numsP_length (b % 8) kind raw l last
  have q2 := numsP_bits (at_ := b % 8) (kind := kind) last k1 hx hrl hks
  have q3 := nums_ok (at_ := b % 8) last k1 hx hrl hks
  have hL : wrNums (b : Int) kind raw l last = numsP (b % 8) kind raw l last := by unfold wrNums; rw [Int.toNat_natCast]
  have hE : wrE pl b kind raw l last = if 8388608 < b + lenN (numsP (b % 8) kind raw l last) then 9 else 0 := by unfold wrE; rw [hP.may hb, if_pos rfl, if_pos h0, hL, Int.toNat_natCast]
  have HR := Lib.hid fun hE9 w' e hb' he => PenRes.one (w := w) (w' := w') (e := e) (pl := pl) (pb := b) (kind := kind) (raw := raw) (l := l) (last := last) (E := 9) hE9 (by omega) hb' he
  have hlen := hP.len
  clear h0 k4 hks hn hm hk hx hrl k1 h0'
  generalize hLL : numsP (b % 8) kind raw l last = L at *
  have HL := Lib.hid fun W wx g h => tlong_any W g L wx h (by omega) (by omega)
  obtain ⟨m, hm⟩ : ∃ m, L.length = m := ⟨_, rfl⟩
  obtain ⟨N, hN⟩ : ∃ N, lenN L = N := ⟨_, rfl⟩
  rw [hN] at HL hE q2
  rw [hm] at q1
  have HM := Lib.hid hm
  have HN := Lib.hid hN
  have HE := Lib.hid hE
  have HLL := Lib.hid hL
  have HPN := Lib.hid (And.intro hpn hrn)
  clear hm hN hE hL hLL hpn hrn
  go_enter Tryz.func5, Tryz.ntmps5
  go_wp2_with fail
  refine (HC.out _ ((hA.alloc _).alloc _)).mono ?_
  rintro e w1 ⟨rfl, hb1⟩
  obtain ⟨b1, z1, z2, k1, k2⟩ := box2 hb1
  clear hb1
  go_wp2_with fail
  refine (HQ.out _ (hT.below b1)).mono ?_
  rintro e w2 ⟨rfl, hb2⟩
  have k1 := Blk.below k1 hb2 z1
  have k2 := Blk.below k2 hb2 z2
  have z1 : w.heap.size < w2.heap.size := Nat.lt_of_lt_of_le z1 hb2.size
  have z2 : w.heap.size + 1 < w2.heap.size := Nat.lt_of_lt_of_le z2 hb2.size
  have b2 := b1.trans (hb2.mono b1.size)
  have c1 := Blk.cells k1
  clear hb2 b1
  go_wp2_with fail
  refine (HO.out _ (hR.below b2) (hT.below b2)).mono ?_
  rintro e w3 ⟨g, rfl, tx⟩
  have hb3 := tx.bel
  have k1 := Blk.below k1 hb3 z1
  have k2 := Blk.below k2 hb3 z2
  have z1 : w.heap.size < w3.heap.size := Nat.lt_of_lt_of_le z1 hb3.size
  have z2 : w.heap.size + 1 < w3.heap.size := Nat.lt_of_lt_of_le z2 hb3.size
  have b3 := b2.trans (hb3.mono b2.size)
  have c1 : ∀ n : Wx w3, ∀ i, n.w.cell? ⟨w.heap.size, i, none⟩ = #[Value.slice A pn pc, .int .i64 (b : Int)][i]? := fun n => Blk.cells (Blk.below k1 n.b z1)
  have zl : ∀ n : Wx w3, w.heap.size < n.w.heap.size := fun n => Nat.lt_of_lt_of_le z1 n.b.size
  have HL2 := Lib.hid fun n : Wx w3 => HL.out w2 n.w g (tx.below n.b)
  clear hb3 HL HO HQ HC
  go_wp2_with fail
  refine wp_region_ext (by kernel_rfl) (by kernel_rfl) ?_
  repeat (go_big_quiet_step (first | (go_at_call 12; with_reducible exact Calls.ext _ (HL2.out _))))
  refine wpQuiet_nil ?_
  rintro w4 ⟨n4, hn4⟩
  have hb4 : Below w3.heap.size w3 w4 := hn4 ▸ n4.b
  clear hn4 n4
  have k1 := Blk.below k1 hb4 z1
  have k2 := Blk.below k2 hb4 z2
  have z1 : w.heap.size < w4.heap.size := Nat.lt_of_lt_of_le z1 hb4.size
  have z2 : w.heap.size + 1 < w4.heap.size := Nat.lt_of_lt_of_le z2 hb4.size
  have b4 := b3.trans (hb4.mono b3.size)
  have tx := tx.below hb4
  clear hb4 c1 zl HL2 b3
  have c1 := Blk.cells k1
  have f2 := Blk.frozens k2
  have c2 := Blk.cells k2
  by_cases hfull : 8388608 < b + N
  · have HE := HE.out
    rw [if_pos hfull] at HE
    have HR := Lib.hid (HR.out HE)
    clear HE
    go_wp2_with fail
    refine bodyPost_ret (v := .tuple #[.agg #[.slice none 0 0, .int .i64 0], .int .i64 9]) (by simp [results, Tryz.results5, go_sem, c2]) rfl (HR.out _ _ ?_ rfl)
    exact (b4.setCell (by simp) _).setCell (by simp) _
  · have HE := HE.out
    rw [if_neg hfull] at HE
    have HE0 := Lib.hid HE
    obtain ⟨q, hqe⟩ : ∃ q, b / 8 = q := ⟨_, rfl⟩
    obtain ⟨r, hre⟩ : ∃ r, b % 8 = r := ⟨_, rfl⟩
    have hdiv : (b : Int) / 8 = (q : Int) := by omega
    have hmod : (b : Int) % 8 = (r : Int) := by omega
    have hq : q ≤ pn := by have := HPN.out.1; omega
    have hqc : (q : Int) ≤ (pc : Int) := by omega
    have hqc2 : q ≤ pc := by omega
    have HQR := Lib.hid (And.intro hqe hre)
    have htl : (pl.take q).length = q := by rw [List.length_take]; have := HPN.out.1; omega
    have HCl := Lib.hid fun wx (h : Rd wx A (u8s pl)) => show Calls Tryz.prog 13 #[.slice A q pc] wx (fun e w' => ∃ A' c', e = .returned (.slice A' q c') ∧ Builds wx w' 5 1 A' q c' (u8s (pl.take q))) from by
      have h0 : Rd wx A (u8s (pl.take q)) := by
        have := h.take q
        unfold u8s at this ⊢
        rw [List.map_take]; exact this
      have := clone_any A pc (pl.take q) wx (rd_u8 h0 fun x hx => hpx x (List.mem_of_mem_take hx)) (fun e => by
        have := h0.2 e
        simpa [u8s] using this) (by omega)
      rw [htl] at this
      exact this.mono fun e w' ⟨A', c', he, ho, hb⟩ => ⟨A', c', he, hb, ho⟩
    clear HE HR f2 c2 hqe hre htl
    go_wp2_with fail
    refine (HCl.out _ (hA.below b4)).mono ?_
    rintro e w5 ⟨A5, c5, rfl, hB5⟩
    have k1 := Blk.below k1 hB5.1 z1
    have k2 := Blk.below k2 hB5.1 z2
    have z1 : w.heap.size < w5.heap.size := Nat.lt_of_lt_of_le z1 hB5.1.size
    have z2 : w.heap.size + 1 < w5.heap.size := Nat.lt_of_lt_of_le z2 hB5.1.size
    have tx := (tx.below hB5.1)
    have hO := hB5.rebase b4
    have c1 := Blk.cells k1
    clear hB5 HCl b4
    go_wp2_with fail
    go_cut [17] from 58 to 65 (fun v17 wx => v17 = .pointer (some ⟨w5.heap.size, 0, none⟩) ∧ (∃ B ce, pn - q ≤ ce ∧ Tails 1 q A B pn ∧ Blk wx w5.heap.size 24 #[.slice B (pn - q) ce, .int .i64 (r : Int)]) ∧ Below w5.heap.size w5 wx)
    case first =>
      as_aux_lemma =>
      by_cases hcc : pc = q
      · obtain rfl : pn = q := by omega
        have hT0 : Tails 1 pn A A pn := fun wx xs hr hl => by
          have : xs.drop (pn * 1) = [] := List.drop_eq_nil_of_le (by omega)
          rw [this]
          exact ⟨fun hn => by simp at hn, fun _ => rfl⟩
        have HT0 := Lib.hid hT0
        subst hcc
        go_region
        go_wp2_with fail
        go_meet
        case rel => exact ⟨rfl, ⟨A, 0, by omega, HT0.out, by rw [Nat.sub_self]; exact Blk.new' _ _ _ _ rfl⟩, ((Below.refl _ _).alloc (Nat.le_refl _) _).drew⟩
      · go_region
        go_wp2_with fail
        go_meet
        case rel => exact ⟨rfl, ⟨_, _, by omega, fun wx xs hr _ => by simpa using hr.drop q, Blk.new' _ _ _ _ (by simp)⟩, ((Below.refl _ _).alloc (Nat.le_refl _) _).drew⟩
    case rest =>
      as_aux_lemma =>
      obtain ⟨rfl, ⟨B, ce, hce, hTl, kE⟩, hbc⟩ := hcut
      have rB : Rd wc B (u8s (pl.drop q)) := by
        have h1 : Rd wc A (u8s pl) := hA.below (hO.1.trans (hbc.mono hO.1.size))
        have := hTl wc (u8s pl) h1 (by rw [u8s_length, Nat.mul_one]; exact HPN.out.1.symm)
        unfold u8s at this ⊢
        rw [List.map_drop]; simpa using this
      have hgE : w.heap.size ≤ w5.heap.size := hO.1.size
      have hO := hO.below hbc
      have kR := Blk.below k2 hbc z2
      have hRE : w.heap.size + 1 ≠ w5.heap.size := by omega
      obtain ⟨AL, cL, t1, t2, _⟩ := tx.below hbc
      rw [HM.out] at t1 t2
      have nl := t2.rebase b2
      have ct : wc.cell? ⟨g, 0, none⟩ = some (.slice AL m cL) := Blk.cell t1 0
      have zt := Blk.lt t1
      have hgR : w.heap.size ≤ w.heap.size + 1 := by omega
      have P0 := Lib.hid (WrP.start hP L HQR.out.1 HQR.out.2 HPN.out.1 hq)
      have J0 : WrJ w w5.heap.size (w.heap.size + 1) AL m cL L A5 q c5 (pl.take q) B (pn - q) ce (pl.drop q) r wc := ⟨hO, kE, kR, rB, nl, hce⟩
      clear hO kE kR rB nl hce hTl t1 t2 hbc k1 k2 tx c1
      generalize w5.heap.size = gE at *
      generalize w.heap.size + 1 = gR at *
      go_wp2_with fail
      clear ct zt
      go_loopg [16, 71] m (fun gk v16 v71 wr => ∃ k O no co o B ne ce e bb, k ≤ m ∧ gk = m - k ∧ v71 = .int .i64 (k : Int) ∧ v16 = .slice O no co ∧ WrJ w gE gR AL m cL L O no co o B ne ce e bb wr ∧ Hid (WrP pl b L k o e bb no ne))
      case atStart => exact ⟨0, A5, q, c5, _, B, _, ce, _, r, by omega, rfl, rfl, rfl, J0, P0⟩
      case round =>
        clear J0 P0
        obtain ⟨k, O, no, co, o, B, ne, ce, e, bb, hk, hgk, rfl, rfl, J, P⟩ := hrel
        have HG := Lib.hid hgk
        clear hgk
        by_cases hlt : k < m
        · as_aux_lemma =>
          have hkL : k < L.length := by rw [HM.out]; exact hlt
          obtain ⟨ab, aoff, rfl, c1, c2⟩ := J.nl.rd.nb hkL
          have hlt1 := cell_lt c1
          have hle := lenN_take_le L k
          rw [HN.out] at hle
          obtain ⟨P1, P2, P3, P4, P5, P6⟩ := P.out
          have hno : no ≤ 1048576 := by omega
          have hstep := fun pe np bs z r h1 h2 h3 h4 h5 => P.out.step hkL (pe := pe) (np := np) (bs := bs) (z := z) (r := r) h1 h2 h3 h4 h5
          have hfit := q3.fits hkL
          obtain ⟨hx1, hx2⟩ := q3.lt _ (List.getElem_mem hkL)
          generalize L[k] = x at *
          obtain ⟨x1, x2⟩ := x
          dsimp only at *
          obtain ⟨pe, hpe⟩ : ∃ pe, putL e bb x1 x2 = pe := ⟨_, rfl⟩
          obtain ⟨np, hnp⟩ : ∃ np, pe.length = np := ⟨_, rfl⟩
          obtain ⟨bs, hbs⟩ : ∃ bs, bb + x2 = bs := ⟨_, rfl⟩
          obtain ⟨z, hz⟩ : ∃ z, bs / 8 = z := ⟨_, rfl⟩
          obtain ⟨r', hr'⟩ : ∃ r', bs % 8 = r' := ⟨_, rfl⟩
          obtain ⟨hP', hzn⟩ := hstep pe np bs z r' hpe hnp hbs hz hr'
          have HP' := Lib.hid hP'
          have HPut := Lib.hid fun wx (h : Rd wx B (u8s e)) => show Calls Tryz.prog 14 #[.agg #[.slice B ne ce, .int .i64 (bb : Int)], .int .u32 (x1 : Int), .int .i64 (x2 : Int)] wx (fun e' w' => ∃ A' c', e' = .returned (.tuple #[.agg #[.slice A' np c', .int .i64 (bs : Int)], .int .i64 0]) ∧ Builds wx w' 5 1 A' np c' (u8s pe)) from by
            have h1 := put_ok B ce e bb x1 x2 wx (rd_u8 h P1.byte) (fun hh => by have := h.2 hh; simpa [u8s] using this) (by omega) (P1.may (by omega)) hx1 hfit (by omega)
            rw [hpe, P6] at h1
            refine h1.mono ?_
            rintro e' w' ⟨hb', A', c', rfl, ho⟩
            rw [hnp] at ho ⊢
            exact ⟨A', c', by rw [← hbs]; simp, hb', ho⟩
          have htk : (u8s pe).take z = u8s (pe.take z) := by unfold u8s; rw [List.map_take]
          have hdr : (u8s pe).drop z = u8s (pe.drop z) := by unfold u8s; rw [List.map_drop]
          have htl : (pe.take z).length = z := by rw [List.length_take]; omega
          have HTK := Lib.hid (And.intro htk (And.intro hdr htl))
          have hdiv' : (bs : Int) / 8 = (z : Int) := by omega
          have hmod' : (bs : Int) % 8 = (r' : Int) := by omega
          have hbs40 : bs ≤ 40 := by omega
          have HNP := Lib.hid hnp
          clear hstep hP' hpe hbs hz hr' P1 P3 P4 P5 P6 hfit htk hdr htl hnp hle
          have cE := Blk.cells J.kE
          have zE := Blk.lt J.kE
          go_wp2_with fail
          refine (HPut.out _ (J.re.alloc _)).mono ?_
          rintro e' w6 ⟨A', c', rfl, hB6⟩
          obtain ⟨q0, q1, q2⟩ := box1 hB6.1
          have ow6 := J.ow.below q0
          have kE6 := Blk.below J.kE q0 zE
          have kR6 := Blk.below J.kR q0 (Blk.lt J.kR)
          have nl6 := J.nl.below q0
          have oB6 := own_far_base (base' := wr.heap.size) hB6.2 (by simp)
          have hlo : ∀ k, (Value.slice O no co).ownBlock = some k → k < wr.heap.size := fun k hk => (J.ow.2.lt k hk).2
          have cap6 := hB6.cap
          have cE := Blk.cells kE6
          have fE := Blk.frozens kE6
          have zE : gE < w6.heap.size := Nat.lt_of_lt_of_le zE q0.size
          clear hB6 q0 q1 q2 HPut c1 c2 hlt1
          go_upto_region 17 with (fail)
          change Code.wp _ _ _ _ ((w6.setCell ⟨gE, 0, none⟩ (.slice A' np c')).setCell ⟨gE, 1, none⟩ (.int .i64 (bs : Int)))
          have ow8 := ow6.far2 kE6 (by decide) hgE 0 1 (.slice A' np c') (.int .i64 (bs : Int))
          have nl8 := nl6.far2 kE6 (by decide) hgE 0 1 (.slice A' np c') (.int .i64 (bs : Int))
          have oB8 := own_far (own_far oB6 (p := ⟨gE, 0, none⟩) (own_blk_ne oB6 kE6 (by decide)) (.slice A' np c')) (p := ⟨gE, 1, none⟩) (own_blk_ne oB6 kE6 (by decide)) (.int .i64 (bs : Int))
          have rp8 := own_rd oB8
          have kE8 : Blk ((w6.setCell ⟨gE, 0, none⟩ (.slice A' np c')).setCell ⟨gE, 1, none⟩ (.int .i64 (bs : Int))) gE 24 #[.slice A' np c', .int .i64 (bs : Int)] := (kE6.set_ 0 _).set_ 1 _
          have kR8 : Blk ((w6.setCell ⟨gE, 0, none⟩ (.slice A' np c')).setCell ⟨gE, 1, none⟩ (.int .i64 (bs : Int))) gR 24 #[.slice none 0 0, .int .i64 0] := (kR6.far (p := ⟨gE, 0, none⟩) hRE _).far (p := ⟨gE, 1, none⟩) hRE _
          generalize (w6.setCell ⟨gE, 0, none⟩ (.slice A' np c')).setCell ⟨gE, 1, none⟩ (.int .i64 (bs : Int)) = w8 at *
          clear ow6 kE6 kR6 nl6 oB6 cE fE zE
          have cE := Blk.cells kE8
          have zE := Blk.lt kE8
          have hz1 : (z : Int) ≤ (c' : Int) := by omega
          have hz2 : z ≤ c' := by omega
          go_wp2_with (at_builtin; refine grow belem_u8 rfl (.tmp 87) (.tmp 91) rfl rfl ow8 rfl (rp8.take z) (by rw [HTK.out.1, u8s_length, HTK.out.2.2, Nat.mul_one]) (by rw [HTK.out.1]; exact u8s_one _) (no + z) rfl (u8s (o ++ pe.take z)) (by rw [HTK.out.1, u8s_append]) (by omega) (by omega) ?_; intro O2 co2 w9 ow9 hg9; have kE9 := kE8.other ow8 (by decide) hg9; have kR9 := kR8.other ow8 (by decide) hg9; have nl9 := nl8.other ow8 (by decide) hg9)
          have oB9' := own_kept_new oB8 hg9 hlo
          have oB9 : w9.drew.ownsRow wr.heap.size 5 1 (.slice A' np c') np (u8s pe) := oB9'
          clear cE zE
          have cE := Blk.cells kE9
          have fE := Blk.frozens kE9
          have zE := Blk.lt kE9
          have kE9 := kE9.drew
          have kR9 := kR9.drew
          have ow9 := ow9.drew
          have nl9 := nl9.drew
          have rF : ∀ a b, Rd ((w9.drew.setCell ⟨gE, 0, none⟩ a).setCell ⟨gE, 1, none⟩ b) A' (u8s pe) := fun a b => own_rd (own_far (own_far oB9 (p := ⟨gE, 0, none⟩) (own_blk_ne oB9 kE9 (by decide)) a) (p := ⟨gE, 1, none⟩) (own_blk_ne oB9 kE9 (by decide)) b)
          have RF := Lib.hid rF
          clear hlo oB8 rp8 kE8 kR8 nl8 ow8 hg9 oB9 oB9' rF
          by_cases hcc : c' = z
          · obtain rfl : np = z := by omega
            have e1 : pe.drop np = [] := List.drop_eq_nil_of_le (by have := HNP.out; omega)
            rw [e1, Nat.sub_self] at HP'
            clear e1
            subst hcc
            go_region
            go_wp2_with fail
            go_roundg (m - (k + 1))
            case measure => have := HG.out; omega
            case rel =>
              refine ⟨k + 1, O2, _, co2, _, A', _, _, _, r', by omega, rfl, by go_num, rfl, ⟨ow9.far2 kE9 (by decide) hgE 0 1 _ _, (kE9.set_ 0 _).set_ 1 _, (kR9.far (p := ⟨gE, 0, none⟩) hRE _).far (p := ⟨gE, 1, none⟩) hRE _, ⟨fun hn => by simp [u8s] at hn, fun _ => rfl⟩, nl9.far2 kE9 (by decide) hgE 0 1 _ _, by omega⟩, HP'⟩
          · go_region
            go_wp2_with fail
            go_roundg (m - (k + 1))
            case measure => have := HG.out; omega
            case rel =>
              refine ⟨k + 1, O2, _, co2, _, _, _, _, _, r', by omega, rfl, by go_num, rfl, ⟨ow9.far2 kE9 (by decide) hgE 0 1 _ _, (kE9.set_ 0 _).set_ 1 _, (kR9.far (p := ⟨gE, 0, none⟩) hRE _).far (p := ⟨gE, 1, none⟩) hRE _, ?_, nl9.far2 kE9 (by decide) hgE 0 1 _ _, by omega⟩, HP'⟩
              rw [← HTK.out.2.1]
              exact (RF.out _ _).drop z
        · as_aux_lemma =>
          obtain rfl : k = m := by omega
          have hP := P.out
          have e1 : L.take k = L := by rw [List.take_of_length_le (by rw [HM.out]; exact Nat.le_refl _)]
          unfold WrP at hP
          rw [e1, HN.out] at hP
          obtain ⟨P1, P2, P3, P4, P5, P6⟩ := hP
          have kE := J.kE
          have kR := J.kR
          have cE := Blk.cells kE
          have s0 : wr.cell? ⟨gE, 0, none⟩ = some (.slice B ne ce) ∧ wr.cell? ⟨gE, 1, none⟩ = some (.int .i64 (bb : Int)) := ⟨cE 0, cE 1⟩
          have zE := Blk.lt kE
          have hno : no ≤ 1048576 := by omega
          have hne : ne ≤ 1 := by have := P1.len; omega
          have HF := Lib.hid (And.intro P3 (And.intro P4 (And.intro P5 P6)))
          have ow := J.ow
          have re := J.re
          have HRL := Lib.hid (show (u8s e).length = ne * 1 by rw [u8s_length, P6]; omega)
          clear e1 P1 P3 P4 P5 P6 hlt J P
          go_wp2_with fail
          go_region_held3 (fun wx => wx.cell? ⟨gE, 0, none⟩ = some (.slice B ne ce) ∧ wx.cell? ⟨gE, 1, none⟩ = some (.int .i64 (bb : Int))) (first | exact s0 | exact x4 | exact ⟨Blk.cell ((Blk.far (p := ⟨gR, 0, none⟩) kE9 hRE.symm _).far (p := ⟨gR, 1, none⟩) hRE.symm _) 0, Blk.cell ((Blk.far (p := ⟨gR, 0, none⟩) kE9 hRE.symm _).far (p := ⟨gR, 1, none⟩) hRE.symm _) 1⟩) ((refine step_grow belem_u8 rfl (.tmp 102) (.tmp 104) rfl rfl (by first | exact ow.drew | exact ow.drewN _) rfl (by first | exact re.drew | exact re.drewN _) HRL.out (u8s_one _) (no + ne) rfl (u8s (o ++ e)) (u8s_append _ _).symm (by omega) (by omega) ?_; intro O3 co3 w9 ow9 hg9; have kE9 := Blk.other (by first | exact kE.drew | exact kE.drewN _) (by first | exact ow.drew | exact ow.drewN _) (by decide) hg9; have kR9 := Blk.other (by first | exact kR.drew | exact kR.drewN _) (by first | exact ow.drew | exact ow.drewN _) (by decide) hg9; have x4 := And.intro (Blk.cell kE9 0) (Blk.cell kE9 1); have cR := Blk.cells kR9; have fR := Blk.frozens kR9; have zR := Blk.lt kR9))
          have HF := HF.out
          have hw := wrap_sum no bb (b + N) (by rw [← HF.2.2.1]; exact HF.2.1) (by omega)
          rw [hw]
          have hLe : (putAll pl b L).length = no + ne := by rw [← HF.1, List.length_append, HF.2.2.1, HF.2.2.2]
          have oF : ((w9.setCell ⟨gR, 0, none⟩ (.slice O3 (no + ne) co3)).setCell ⟨gR, 1, none⟩ (.int .i64 ((b + N : Nat) : Int))).ownsRow w.heap.size 5 1 (.slice O3 (no + ne) co3) (no + ne) (u8s (o ++ e)) :=
            own_far (own_far ow9.2 (p := ⟨gR, 0, none⟩) (own_blk_ne ow9.2 kR9 (by decide)) _) (p := ⟨gR, 1, none⟩) (own_blk_ne ow9.2 kR9 (by decide)) _
          have bF : Below w.heap.size w ((w9.setCell ⟨gR, 0, none⟩ (.slice O3 (no + ne) co3)).setCell ⟨gR, 1, none⟩ (.int .i64 ((b + N : Nat) : Int))) := (ow9.1.setCell hgR _).setCell hgR _
          have kF : Blk ((w9.setCell ⟨gR, 0, none⟩ (.slice O3 (no + ne) co3)).setCell ⟨gR, 1, none⟩ (.int .i64 ((b + N : Nat) : Int))) gR 24 #[.slice O3 (no + ne) co3, .int .i64 ((b + N : Nat) : Int)] := (kR9.set_ 0 _).set_ 1 _
          have cF := Blk.cells kF
          rw [HF.1] at oF
          have HM' : wrM pl b kind raw l last = putAll pl b L := by unfold wrM; rw [HE0.out, if_pos rfl, HLL.out, Int.toNat_natCast]
          have HN' : wrN pl b kind raw l last = b + N := by unfold wrN; rw [HE0.out, if_pos rfl, HLL.out, HN.out, Int.toNat_natCast]
          have HFin := Lib.hid (And.intro HM' (And.intro HN' (And.intro HE0.out hLe)))
          generalize (w9.setCell ⟨gR, 0, none⟩ (.slice O3 (no + ne) co3)).setCell ⟨gR, 1, none⟩ (.int .i64 ((b + N : Nat) : Int)) = w10 at *
          clear HF hw HM' HN' hLe
          go_wp2_with fail
          refine bodyPost_ret (v := .tuple #[.agg #[.slice O3 (no + ne) co3, .int .i64 ((b + N : Nat) : Int)], .int .i64 0]) (by simp [results, Tryz.results5, go_sem, cF]) rfl ?_
          obtain ⟨h1, h2, h3, h4⟩ := HFin.out
          rw [h1, h2, h3]
          exact ⟨bF, O3, co3, by rw [h4]; rfl, by rw [h4]; exact oF⟩
end Go.Proofs.YtfcefhaaphieeaaGreat
