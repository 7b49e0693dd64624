/-
  Walks: the document's Put of numbers, and Write.
-/
import Derived.Test.YtfcefhaaphieeaaGreatG42
import Derived.Test.YtfcefhaaphieeaaGreatGBlkR
namespace Go.Proofs.YtfcefhaaphieeaaGreat
open Go.RowKit

/-- What a pen's function of the document answers. -/
def RPen (w w' : World) (e : Ending) (l : List Nat) (n E : Nat) : Prop :=
  Below w.heap.size w w' ∧ ∃ A m c, e = .returned (.tuple #[.agg #[.slice A m c, .int .i64 (n : Int)], .int .i64 (E : Int)]) ∧ m = l.length ∧ Rd w' A (u8s l)
def RPut (w w' : World) (e : Ending) (l : List Nat) (n : Nat) : Prop :=
  Below w.heap.size w w' ∧ ∃ A m c, e = .returned (.agg #[.slice A m c, .int .i64 (n : Int)]) ∧ m = l.length ∧ Rd w' A (u8s l)

/-- Bytes stand where a block of no bytes turns. -/
theorem Rd.off {w w' : World} {A : Option Addr} {l : List Nat} {g : Nat} {t : TypeId} {cs : Array Value} (h : Rd w A (u8s l)) (k : Blk w g t cs) (hc : ∀ v ∈ cs.toList, ∀ x : Int, v ≠ .int .u8 x) (hg : w.grownBy w' (some g)) : Rd w' A (u8s l) := by
  cases l with
  | nil => exact ⟨fun hn => by simp [u8s] at hn, h.2⟩
  | cons x l =>
    obtain ⟨b, off, rfl, hcell⟩ := h.at_ (by simp [u8s])
    refine rd_kept (n := 0) (c := 0) h hg ?_
    simp only [Value.ownBlock, ne_eq, Option.some.injEq]
    rintro rfl
    have h0 := hcell 0 (.int .u8 (x : Int)) rfl
    rw [k.cell] at h0
    exact hc _ (Array.mem_toList_iff.2 (Array.mem_of_getElem? h0)) _ rfl

set_option maxRecDepth 100000 in
set_option maxHeartbeats 4000000 in
theorem rputn_any (A : Option Addr) (pn pc : Nat) (pl : List Nat) (b : Nat) (Q : Option Addr) (m d : Nat) (L : List (Nat × Nat)) (w : World) (hA : Rd w A (u8s pl)) (hpn : pn = pl.length) (hP : Pen pl b)
    (hQ : Rd w Q (nbV L)) (hm : m = L.length) (hL : NOk L) (hml : m ≤ 1000000) (hb : b + lenN L ≤ 8388608) :
    Calls Tryz.prog 19 #[.agg #[.slice A pn pc, .int .i64 (b : Int)], .slice Q m d] w fun e w' => RPut w w' e (putAll pl b L) (b + lenN L) := by
  have HS := Lib.hid fun (A : Option Addr) (q c : Nat) (x : List Nat) (n v k : Nat) (wx : World) (hx : Rd wx A (u8s x)) (hq : q = x.length) (hPx : Pen x n) (hv : v < 4294967296) (hk : k ≤ 32) (hf : n + k ≤ 9000000) => show Calls Tryz.prog 36 #[.agg #[.slice A q c, .int .i64 (n : Int)], .int .u32 (v : Int), .int .i64 (k : Int)] wx (fun e w' => ∃ A' q' c', e = .returned (.agg #[.slice A' q' c', .int .i64 ((n + k : Nat) : Int)]) ∧ Below wx.heap.size wx w' ∧ Hid (q' = (putL x n v k).length) ∧ Rd w' A' (u8s (putL x n v k))) from by
    subst hq
    refine (rset_ok A c x n v k wx (rd_u8 hx hPx.byte) (fun h => List.map_eq_nil_iff.1 (hx.2 h)) hPx hv hk hf).mono ?_
    rintro e w' ⟨hb, A', c', he, ho⟩
    exact ⟨A', _, c', he, hb, Lib.hid rfl, own_rd ho⟩
  have HM := Lib.hid hm
  have HPn := Lib.hid hpn
  have HK := Lib.hid (fun k => (hP.all (L.take k)).1)
  have HLk := Lib.hid hL
  have HB := Lib.hid hb
  clear hm hpn hP hL hb
  go_enter Tryz.func19, Tryz.ntmps19
  go_wp2_with fail
  have k1 : Blk ((w.alloc (.cells #[.slice A pn pc, .int .i64 (b : Int)] 24)).alloc (.cells #[.slice none 0 0, .int .i64 0] 24)) w.heap.size 24 #[.slice A pn pc, .int .i64 (b : Int)] := (Blk.new _ _ _).alloc _
  have k2 : Blk ((w.alloc (.cells #[.slice A pn pc, .int .i64 (b : Int)] 24)).alloc (.cells #[.slice none 0 0, .int .i64 0] 24)) (w.heap.size + 1) 24 #[.slice none 0 0, .int .i64 0] := Blk.new' _ _ _ _ (by simp)
  have b0 : Below w.heap.size w ((w.alloc (.cells #[.slice A pn pc, .int .i64 (b : Int)] 24)).alloc (.cells #[.slice none 0 0, .int .i64 0] 24)) := ((Below.refl _ _).alloc (Nat.le_refl _) _).alloc (by simp) _
  have a0 := hA.below b0
  generalize ((w.alloc (.cells #[.slice A pn pc, .int .i64 (b : Int)] 24)).alloc (.cells #[.slice none 0 0, .int .i64 0] 24)) = w1 at *
  obtain ⟨g, hg⟩ : ∃ g, w.heap.size = g := ⟨_, rfl⟩
  rw [hg] at k1 k2
  rw [hg]
  have HGw := Lib.hid hg
  clear hg
  go_loopg [5] m (fun gk v5 wr => ∃ (k : Nat) (A' : Option Addr) (n' c' N : Nat), k ≤ m ∧ gk = m - k ∧ v5 = .int .i64 (k : Int) ∧ Blk wr g 24 #[.slice A' n' c', .int .i64 (N : Int)] ∧ Hid (n' = (putAll pl b (L.take k)).length ∧ N = b + lenN (L.take k)) ∧ Rd wr A' (u8s (putAll pl b (L.take k))) ∧ Blk wr (g + 1) 24 #[.slice none 0 0, .int .i64 0] ∧ Below w.heap.size w wr)
  case atStart => exact ⟨0, A, pn, pc, b, by omega, rfl, rfl, k1, Lib.hid ⟨by simpa [putAll] using HPn.out, by simp [lenN]⟩, by simpa [putAll] using a0, k2, b0⟩
  case round =>
    clear k1 k2 a0 b0
    obtain ⟨k, A', n', c', N, hk, hgk, rfl, k1, HN, rA, k2, hb⟩ := hrel
    have HG := Lib.hid hgk
    clear hgk
    have hne : g ≠ g + 1 := by omega
    by_cases hlt : k < m
    · have hkL : k < L.length := by have := HM.out; omega
      obtain ⟨bq, off, rfl, c0, c1⟩ := (hQ.below hb).nb hkL
      have HQc := Lib.hid (And.intro c0 c1)
      have hx := HLk.out _ (List.getElem_mem hkL)
      have hle2 := lenN_take_le L (k + 1)
      have hs := lenN_take_succ L k hkL
      have hps := putAll_succ L k hkL pl b
      have hPk := HK.out k
      have hNb : N + L[k].2 ≤ 8388608 := by have := HB.out; have := HN.out.2; omega
      have hv32 : L[k].1 < 4294967296 := by have := Nat.pow_le_pow_right (n := 2) (by omega) hx.1; omega
      have hk32 := hx.1
      have hNe : b + lenN (L.take (k + 1)) = N + L[k].2 := by rw [hs, HN.out.2]; omega
      rw [← HN.out.2] at hPk hps
      generalize L[k] = x at *
      obtain ⟨x1, x2⟩ := x
      dsimp only at *
      have HSx := Lib.hid (fun wx (h : Rd wx A' (u8s (putAll pl b (L.take k)))) => HS.out A' n' c' _ N x1 x2 wx h HN.out.1 hPk hv32 hk32 (by omega))
      rw [← hps] at HSx
      have HE := Lib.hid hNe
      clear hx hle2 hs hps hPk hNe
      generalize hpk1 : putAll pl b (L.take (k + 1)) = p2 at *
      have HP2 := Lib.hid hpk1
      have s0 : (wr.cell? ⟨g, 0, none⟩ = some (.slice A' n' c') ∧ wr.cell? ⟨g, 1, none⟩ = some (.int .i64 (N : Int))) ∧ wr.cell? ⟨bq, off + k * 2, none⟩ = some (.int .u32 (x1 : Int)) ∧ wr.cell? ⟨bq, off + k * 2 + 1, none⟩ = some (.int .i64 (x2 : Int)) := ⟨⟨Blk.cell k1 0, Blk.cell k1 1⟩, HQc.out⟩
      have z1 : (0 : Int) ≤ (k : Int) := by omega
      have z2 : (k : Int) < (m : Int) := by omega
      have hlt1 := cell_lt c0
      have hlt2 := Blk.lt k1
      have HD := Lib.hid (fun wx (hw : Below wr.heap.size wr wx) => (HSx.out wx (rA.below hw)).mono fun e w' h => show ∃ A2 q2 c2, e = .returned (.agg #[.slice A2 q2 c2, .int .i64 ((N + x2 : Nat) : Int)]) ∧ Below wr.heap.size wr w' ∧ Hid (q2 = p2.length) ∧ Rd w' A2 (u8s p2) from by obtain ⟨A2, q2, c2, h1, h2, h3, h4⟩ := h; exact ⟨A2, q2, c2, h1, hw.trans (h2.mono hw.size), h3, h4⟩)
      clear hpk1 c0 c1
      go_wp2_with fail
      obtain ⟨⟨y0, y1⟩, y2, y3⟩ := s0
      have q4 : IntKind.i64.wrap (k : Int) = (k : Int) := IntWalk.i64_in _ (by omega)
      refine wp_region_still_tail 11 (by kernel_rfl) (by kernel_rfl) ?_
      simp only [List.take_succ_cons, List.take_zero, List.drop_succ_cons, List.drop_zero]
      repeat still_step
      refine wpStill_nil ?_
      change wpList _ _ _ _ _ wr.drew
      have hD := HD.out wr.drew (Below.refl _ _).drew
      go_wp2_with (go_at_call 36; refine hD.mono ?_; rintro e w2 ⟨A2, q2, c2, rfl, hb2, hq2, r2⟩; have k1 := Blk.below k1 hb2 hlt2; have k2 := Blk.below k2 hb2 (Blk.lt k2); have f1 := Blk.frozens k1; have d1 := Blk.cells k1; have zz := Blk.lt k1)
      go_roundg (m - (k + 1))
      case measure => have := HG.out; omega
      case rel =>
        have e1 : ((N : Int) + (x2 : Int)) = ((N + x2 : Nat) : Int) := by omega
        have hP2 := HP2.out
        have hE := HE.out
        rw [e1]
        have hne2 : g + 1 ≠ g := by omega
        refine ⟨k + 1, A2, q2, c2, N + x2, by omega, rfl, by go_num, (k1.set_ 0 _).set_ 1 _, Lib.hid ⟨by rw [hP2]; exact hq2.out, hE.symm⟩, ?_, ?_, ?_⟩
        · rw [hP2]
          exact r2.off k1 (by simp) (only_set (only_set (only_refl' _ _) 0 _) 1 _)
        · exact (k2.far (p := ⟨g, 0, none⟩) hne2 _).far (p := ⟨g, 1, none⟩) hne2 _
        · have hg : w.heap.size ≤ g := by have := HGw.out; omega
          exact ((hb.trans (hb2.mono hb.size)).setCell hg _).setCell hg _
    · obtain rfl : k = m := by omega
      have hmt : L.take k = L := by rw [HM.out]; exact List.take_length
      rw [hmt] at HN rA
      have d1 := Blk.cells k1
      have d2 := Blk.cells k2
      have f2 := Blk.frozens k2
      go_wp2_with fail
      have hg : w.heap.size ≤ g + 1 := by have := HGw.out; omega
      refine bodyPost_ret (results_one_row Tryz.results19 _ _ (g + 1) 24 #[.slice A' n' c', .int .i64 (N : Int)] _ rfl ((k2.set_ 0 _).set_ 1 _) Tryz.underlying24 rfl (by kernel_rfl)) rfl ?_
      refine ⟨(hb.setCell hg _).setCell hg _, A', n', c', by rw [HN.out.2], HN.out.1, ?_⟩
      exact rA.off k2 (by simp) (only_set (only_set (only_refl' _ _) 0 _) 1 _)
end Go.Proofs.YtfcefhaaphieeaaGreat

/-
  Walks: the document's Write.
-/
namespace Go.Proofs.YtfcefhaaphieeaaGreat
open Go.RowKit

theorem RPen.none_ {w w' : World} {e : Ending} {E : Nat} (h : Below w.heap.size w w') (he : e = .returned (.tuple #[.agg #[.slice none 0 0, .int .i64 0], .int .i64 (E : Int)])) : RPen w w' e [] 0 E :=
  ⟨h, none, 0, 0, he, rfl, Rd.nil_⟩
theorem RPen.one {w w' : World} {e : Ending} {pl : List Nat} {pb : Int} {kind : Nat} {raw : List Nat} {l : List Tk} {last : Bool} {E : Nat} (hE : wrE pl pb kind raw l last = E) (h0 : E ≠ 0) (hb : Below w.heap.size w w') (he : e = .returned (.tuple #[.agg #[.slice none 0 0, .int .i64 0], .int .i64 (E : Int)])) :
    RPen w w' e (wrM pl pb kind raw l last) (wrN pl pb kind raw l last) (wrE pl pb kind raw l last) := by
  unfold wrM wrN
  rw [hE, if_neg h0, if_neg h0]
  exact RPen.none_ hb he

set_option maxRecDepth 100000 in
set_option maxHeartbeats 4000000 in
theorem rwrite_bad (A : Option Addr) (pn pc : Nat) (pl : List Nat) (pb : Int) (kind : Nat) (R : Option Addr) (rn rc : Nat) (raw : List Nat) (T : Option Addr) (n c : Nat) (l : List Tk) (last : Bool) (w : World)
    (hA : Rd w A (u8s pl)) (hpn : pn = pl.length) (hpx : ∀ x ∈ pl, x < 256) (hpl : pl.length ≤ 1000000000) (h1 : -9223372036854775808 ≤ pb) (h2 : pb ≤ 9223372036854775807) (h : mayB pl pb = false) :
    Calls Tryz.prog 6 #[.agg #[.slice A pn pc, .int .i64 pb], .int .u8 (kind : Int), .slice R rn rc, .slice T n c, .bool last] w fun e w' => RPen w w' e (wrM pl pb kind raw l last) (wrN pl pb kind raw l last) (wrE pl pb kind raw l last) := by
  have HC := Lib.hid fun wx (h' : Rd wx A (u8s pl)) => show Calls Tryz.prog 15 #[.agg #[.slice A pn pc, .int .i64 pb]] wx (fun e w' => e = .returned (.bool false) ∧ Below wx.heap.size wx w') from by
    subst hpn
    exact rmay_is A pc pl pb false wx h (rd_u8 h' hpx) hpl h1 h2
  have HR := Lib.hid fun w' e hb he => RPen.one (w := w) (w' := w') (e := e) (pl := pl) (pb := pb) (kind := kind) (raw := raw) (l := l) (last := last) (E := 8) (by unfold wrE; rw [h]; rfl) (by omega) hb he
  clear h hpn hpx hpl
  go_enter Tryz.func6, Tryz.ntmps6
  go_wp2_with fail
  refine (HC.out _ ((hA.alloc _).alloc _)).mono ?_
  rintro e w1 ⟨rfl, hb1⟩
  obtain ⟨b1, z1, z2, k1, k2⟩ := box2 hb1
  have c1 := Blk.cells k1
  have c2 := Blk.cells k2
  have f2 := Blk.frozens k2
  clear hb1
  go_wp2_with fail
  refine bodyPost_ret (v := .tuple #[.agg #[.slice none 0 0, .int .i64 0], .int .i64 8]) (by simp [results, Tryz.results6, go_sem, c2]) rfl (HR.out _ _ ?_ rfl)
  exact (b1.setCell (by simp) _).setCell (by simp) _

theorem rmay_good (A : Option Addr) (pn pc : Nat) (pl : List Nat) (b : Nat) (wx : World) (h : Rd wx A (u8s pl)) (hpn : pn = pl.length) (hpx : ∀ x ∈ pl, x < 256) (hP : Pen pl b) (hb : b ≤ 8388608) :
    Calls Tryz.prog 15 #[.agg #[.slice A pn pc, .int .i64 (b : Int)]] wx fun e w' => e = .returned (.bool true) ∧ Below wx.heap.size wx w' := by
  subst hpn
  have hl := hP.len
  exact rmay_is A pc pl b true wx (hP.may hb) (rd_u8 h hpx) (by omega) (by omega) (by omega)

set_option maxRecDepth 100000 in
set_option maxHeartbeats 4000000 in
theorem rwrite_ask (A : Option Addr) (pn pc : Nat) (pl : List Nat) (b : Nat) (kind : Nat) (R : Option Addr) (rn rc : Nat) (raw : List Nat) (T : Option Addr) (n c : Nat) (l : List Tk) (last : Bool) (w : World)
    (hA : Rd w A (u8s pl)) (hpn : pn = pl.length) (hpx : ∀ x ∈ pl, x < 256) (hP : Pen pl b) (hb : b ≤ 8388608) (hk0 : kind < 256) (hrn : rn = raw.length) (hrl : raw.length ≤ 65535)
    (hT : Rd w T (tkV l)) (hn : n = l.length) (hm : l.length ≤ 65535) (hk : ∀ t ∈ l, TkN t) (h0 : askK kind raw.length l ≠ 0) :
    Calls Tryz.prog 6 #[.agg #[.slice A pn pc, .int .i64 (b : Int)], .int .u8 (kind : Int), .slice R rn rc, .slice T n c, .bool last] w fun e w' => RPen w w' e (wrM pl b kind raw l last) (wrN pl b kind raw l last) (wrE pl b kind raw l last) := by
  have HC := Lib.hid fun wx h => rmay_good A pn pc pl b wx h hpn hpx hP hb
  have HQ := Lib.hid fun wx hT => rasked_any kind R rn rc T n c l wx hk0 (by omega) hT hn hm hk
  have HR := Lib.hid fun w' e hb' he => RPen.one (w := w) (w' := w') (e := e) (pl := pl) (pb := b) (kind := kind) (raw := raw) (l := l) (last := last) (E := askK kind raw.length l) (by unfold wrE; rw [hP.may hb, if_pos rfl, if_neg h0]) h0 hb' he
  rw [← hrn] at HR h0
  generalize askK kind rn l = E at *
  have hE : ¬ ((E : Int) = 0) := by omega
  clear hpn hpx hrn hrl hn hm hk hP h0
  go_enter Tryz.func6, Tryz.ntmps6
  go_wp2_with fail
  refine (HC.out _ ((hA.alloc _).alloc _)).mono ?_
  rintro e w1 ⟨rfl, hb1⟩
  obtain ⟨b1, z1, z2, k1, k2⟩ := box2 hb1
  clear hb1
  go_wp2_with fail
  refine (HQ.out _ (hT.below b1)).mono ?_
  rintro e w2 ⟨rfl, hb2⟩
  have k2 := Blk.below k2 hb2 z2
  have z2 : w.heap.size + 1 < w2.heap.size := Nat.lt_of_lt_of_le z2 hb2.size
  have b2 := b1.trans (hb2.mono b1.size)
  have c2 := Blk.cells k2
  have f2 := Blk.frozens k2
  clear hb2 z1 k1
  go_wp2_with fail
  refine bodyPost_ret (v := .tuple #[.agg #[.slice none 0 0, .int .i64 0], .int .i64 (E : Int)]) (by simp [results, Tryz.results6, go_sem, c2]) rfl (HR.out _ _ ?_ rfl)
  exact (b2.setCell (by simp) _).setCell (by simp) _

set_option maxRecDepth 100000 in
set_option maxHeartbeats 4000000 in
theorem rwrite_good (A : Option Addr) (pn pc : Nat) (pl : List Nat) (b : Nat) (kind : Nat) (R : Option Addr) (rn rc : Nat) (raw : List Nat) (T : Option Addr) (n c : Nat) (l : List Tk) (last : Bool) (w : World)
    (hA : Rd w A (u8s pl)) (hpn : pn = pl.length) (hpx : ∀ x ∈ pl, x < 256) (hP : Pen pl b) (hb : b ≤ 8388608) (hk0 : kind < 256) (hR : Rd w R (u8s raw)) (hx : ∀ x ∈ raw, x < 256) (hrn : rn = raw.length) (hrl : raw.length ≤ 65535)
    (hT : Rd w T (tkV l)) (hn : n = l.length) (hm : l.length ≤ 65535) (hk : ∀ t ∈ l, TkN t) (h0 : askK kind raw.length l = 0) :
    Calls Tryz.prog 6 #[.agg #[.slice A pn pc, .int .i64 (b : Int)], .int .u8 (kind : Int), .slice R rn rc, .slice T n c, .bool last] w fun e w' => RPen w w' e (wrM pl b kind raw l last) (wrN pl b kind raw l last) (wrE pl b kind raw l last) := by
  have HC := Lib.hid fun wx h => rmay_good A pn pc pl b wx h hpn hpx hP hb
  obtain ⟨k1, _, _, k4⟩ := askK_zero h0
  have hks := tks_of k4 hk
  have HQ := Lib.hid fun wx hT => rasked_any kind R rn rc T n c l wx hk0 (by omega) hT hn hm hk
  have h0' : askK kind rn l = 0 := by rw [hrn]; exact h0
  rw [h0'] at HQ
  have HO := Lib.hid fun wx (hR : Rd wx R (u8s raw)) (hT : Rd wx T (tkV l)) => show Calls Tryz.prog 17 #[.int .i64 ((b : Int) % 8), .int .u8 (kind : Int), .slice R rn rc, .slice T n c, .bool last] wx (NumRes (numsD (b % 8) kind raw l last) wx) from rnums_any (b % 8) kind R rn rc raw T n c l last wx (by omega) k1 hR hrn hx hrl hT hn hm hks
  have q1 := numsD_length (b % 8) kind raw l last
  have q2 := numsP_bits (at_ := b % 8) (kind := kind) last k1 hx hrl hks
  have q3 := numsD_ok (at_ := b % 8) last k1 hx hrl hks
  rw [nums_len] at q2
  have hL : putAll pl b (wrNums (b : Int) kind raw l last) = putAll pl b (numsD (b % 8) kind raw l last) := by unfold wrNums; rw [Int.toNat_natCast]; exact putAll_flat hP (nums_flat _ _ _ _ _)
  have hLn : lenN (wrNums (b : Int) kind raw l last) = lenN (numsD (b % 8) kind raw l last) := by unfold wrNums; rw [Int.toNat_natCast]; exact nums_len _ _ _ _ _
  have hE : wrE pl b kind raw l last = if 8388608 < b + lenN (numsD (b % 8) kind raw l last) then 9 else 0 := by unfold wrE; rw [hP.may hb, if_pos rfl, if_pos h0, hLn, Int.toNat_natCast]
  have HR := Lib.hid fun hE9 w' e hb' he => RPen.one (w := w) (w' := w') (e := e) (pl := pl) (pb := b) (kind := kind) (raw := raw) (l := l) (last := last) (E := 9) hE9 (by omega) hb' he
  have hlen := hP.len
  have HG := Lib.hid (show wrE pl b kind raw l last = 0 → wrM pl b kind raw l last = putAll pl b (numsD (b % 8) kind raw l last) ∧ wrN pl b kind raw l last = b + lenN (numsD (b % 8) kind raw l last) from fun e => by unfold wrM wrN; rw [if_pos e, if_pos e, hLn, Int.toNat_natCast, hL]; exact ⟨rfl, rfl⟩)
  clear h0 k4 hks hn hm hk hx hrl k1 h0' hL hLn
  generalize numsD (b % 8) kind raw l last = L at *
  have HLb := Lib.hid fun wx Q d (h : Rd wx Q (nbV L)) => rbitsN_any Q L.length d L wx h rfl (by omega) (by omega)
  have HPt := Lib.hid fun wx A' pc' Q d (h : Rd wx A' (u8s pl)) (hq : Rd wx Q (nbV L)) (hf : b + lenN L ≤ 8388608) => rputn_any A' pn pc' pl b Q L.length d L wx h hpn hP hq rfl q3 (by omega) hf
  have HTw := Lib.hid fun wx (h : Rd wx A (u8s pl)) => show Calls Tryz.prog 4 #[.agg #[.slice A pn pc, .int .i64 (b : Int)]] wx (fun e w' => ∃ A' c', e = .returned (.agg #[.slice A' pn c', .int .i64 (b : Int)]) ∧ Below wx.heap.size wx w' ∧ Rd w' A' (u8s pl)) from by
    subst hpn
    refine (twin_any A pc pl b wx (rd_u8 h hpx) (fun e => by have := h.2 e; simpa [u8s] using this) (by omega)).mono ?_
    rintro e w' ⟨A', c', he, ho, hb'⟩
    exact ⟨A', c', he, hb', own_rd ho⟩
  obtain ⟨m, hm⟩ : ∃ m, L.length = m := ⟨_, rfl⟩
  obtain ⟨N, hN⟩ : ∃ N, lenN L = N := ⟨_, rfl⟩
  rw [hN] at HLb hE q2 HPt HG
  rw [hm] at HLb HPt
  have HM := Lib.hid hm
  have HN := Lib.hid hN
  have HE := Lib.hid hE
  have HPN := Lib.hid (And.intro hpn hrn)
  clear hm hN hE hpn hrn q1 q3
  go_enter Tryz.func6, Tryz.ntmps6
  go_wp2_with fail
  refine (HC.out _ ((hA.alloc _).alloc _)).mono ?_
  rintro e w1 ⟨rfl, hb1⟩
  obtain ⟨b1, z1, z2, k1, k2⟩ := box2 hb1
  clear hb1
  go_wp2_with fail
  refine (HQ.out _ (hT.below b1)).mono ?_
  rintro e w2 ⟨rfl, hb2⟩
  have k1 := Blk.below k1 hb2 z1
  have k2 := Blk.below k2 hb2 z2
  have z1 : w.heap.size < w2.heap.size := Nat.lt_of_lt_of_le z1 hb2.size
  have z2 : w.heap.size + 1 < w2.heap.size := Nat.lt_of_lt_of_le z2 hb2.size
  have b2 := b1.trans (hb2.mono b1.size)
  have c1 := Blk.cells k1
  clear hb2 b1
  go_wp2_with fail
  refine (HO.out _ (hR.below b2) (hT.below b2)).mono ?_
  rintro e w3 ⟨Q, d, rfl, hB3⟩
  rw [HM.out]
  have hb3 := hB3.1
  have k1 := Blk.below k1 hb3 z1
  have k2 := Blk.below k2 hb3 z2
  have z1 : w.heap.size < w3.heap.size := Nat.lt_of_lt_of_le z1 hb3.size
  have z2 : w.heap.size + 1 < w3.heap.size := Nat.lt_of_lt_of_le z2 hb3.size
  have b3 := b2.trans (hb3.mono b2.size)
  have rQ := hB3.rd
  have c1 : ∀ n : Wx w3, ∀ i, n.w.cell? ⟨w.heap.size, i, none⟩ = #[Value.slice A pn pc, .int .i64 (b : Int)][i]? := fun n => Blk.cells (Blk.below k1 n.b z1)
  have zl : ∀ n : Wx w3, w.heap.size < n.w.heap.size := fun n => Nat.lt_of_lt_of_le z1 n.b.size
  have HL2 := Lib.hid fun n : Wx w3 => (HLb.out n.w Q d (rQ.below n.b)).mono fun e w' (h : _ ∧ n.w = w') => show e = .returned (.int .i64 (N : Int)) ∧ Below n.w.heap.size n.w w' from ⟨h.1, h.2 ▸ Below.refl _ _⟩
  clear hb3 HLb HO HQ HC hB3
  go_wp2_with fail
  refine wp_region_ext (by kernel_rfl) (by kernel_rfl) ?_
  repeat (go_big_quiet_step (first | (go_at_call 18; with_reducible exact Calls.ext _ (HL2.out _))))
  refine wpQuiet_nil ?_
  rintro w4 ⟨n4, hn4⟩
  have hb4 : Below w3.heap.size w3 w4 := hn4 ▸ n4.b
  clear hn4 n4
  have k1 := Blk.below k1 hb4 z1
  have k2 := Blk.below k2 hb4 z2
  have z1 : w.heap.size < w4.heap.size := Nat.lt_of_lt_of_le z1 hb4.size
  have z2 : w.heap.size + 1 < w4.heap.size := Nat.lt_of_lt_of_le z2 hb4.size
  have b4 := b3.trans (hb4.mono b3.size)
  have rQ := rQ.below hb4
  clear hb4 c1 zl HL2 b3
  have c1 := Blk.cells k1
  have f2 := Blk.frozens k2
  have c2 := Blk.cells k2
  by_cases hfull : 8388608 < b + N
  · have HE := HE.out
    rw [if_pos hfull] at HE
    have HR := Lib.hid (HR.out HE)
    clear HE
    go_wp2_with fail
    refine bodyPost_ret (v := .tuple #[.agg #[.slice none 0 0, .int .i64 0], .int .i64 9]) (by simp [results, Tryz.results6, go_sem, c2]) rfl (HR.out _ _ ?_ rfl)
    exact (b4.setCell (by simp) _).setCell (by simp) _
  · have HE := HE.out
    rw [if_neg hfull] at HE
    have HG := HG.out HE
    have HZ := Lib.hid fun w' e (h : RPen w w' e (putAll pl b L) (b + N) 0) => show RPen w w' e (wrM pl b kind raw l last) (wrN pl b kind raw l last) (wrE pl b kind raw l last) from by rw [HE, HG.1, HG.2]; exact h
    clear HE HG HR f2 c2
    go_wp2_with fail
    refine (HTw.out _ (hA.below b4)).mono ?_
    rintro e w5 ⟨A5, c5, rfl, hb5, r5⟩
    have k2 := Blk.below k2 hb5 z2
    have z2 : w.heap.size + 1 < w5.heap.size := Nat.lt_of_lt_of_le z2 hb5.size
    have b5 := b4.trans (hb5.mono b4.size)
    have rQ := rQ.below hb5
    clear hb5 HTw c1 b4
    go_wp2_with fail
    refine (HPt.out _ A5 c5 Q d r5 rQ (by omega)).mono ?_
    rintro e w6 ⟨hb6, A6, m6, c6, rfl, hm6, r6⟩
    have k2 := Blk.below k2 hb6 z2
    have b6 := b5.trans (hb6.mono b5.size)
    have f2 := Blk.frozens k2
    have c2 := Blk.cells k2
    have HM6 := Lib.hid hm6
    clear hb6 HPt b5 hm6 r5
    go_wp2_with fail
    have hc : ((b + N : Nat) : Int) = (b : Int) + (N : Int) := by omega
    have kz := (k2.set_ 0 (.slice A6 m6 c6)).set_ 1 (.int .i64 ((b : Int) + (N : Int)))
    have cz := Blk.cells kz
    refine bodyPost_ret (v := .tuple #[.agg #[.slice A6 m6 c6, .int .i64 ((b : Int) + (N : Int))], .int .i64 0]) (by simp [results, Tryz.results6, go_sem, cz]) rfl ?_
    exact HZ.out _ _ ⟨(b6.setCell (by simp) _).setCell (by simp) _, A6, m6, c6, by rw [hc]; rfl, HM6.out, r6.off k2 (by simp) (only_set (only_set (only_refl' _ _) 0 _) 1 _)⟩

theorem rwrite_any (A : Option Addr) (pn pc : Nat) (pl : List Nat) (pb : Int) (kind : Nat) (R : Option Addr) (rn rc : Nat) (raw : List Nat) (T : Option Addr) (n c : Nat) (l : List Tk) (last : Bool) (w : World)
    (hA : Rd w A (u8s pl)) (hpn : pn = pl.length) (hpx : ∀ x ∈ pl, x < 256) (hpl : pl.length ≤ 1000000000) (h1 : -9223372036854775808 ≤ pb) (h2 : pb ≤ 9223372036854775807) (hk0 : kind < 256) (hR : Rd w R (u8s raw)) (hx : ∀ x ∈ raw, x < 256) (hrn : rn = raw.length) (hrl : raw.length ≤ 65535)
    (hT : Rd w T (tkV l)) (hn : n = l.length) (hm : l.length ≤ 65535) (hk : ∀ t ∈ l, TkN t) :
    Calls Tryz.prog 6 #[.agg #[.slice A pn pc, .int .i64 pb], .int .u8 (kind : Int), .slice R rn rc, .slice T n c, .bool last] w fun e w' => RPen w w' e (wrM pl pb kind raw l last) (wrN pl pb kind raw l last) (wrE pl pb kind raw l last) := by
  cases hmay : mayB pl pb with
  | false => exact rwrite_bad A pn pc pl pb kind R rn rc raw T n c l last w hA hpn hpx hpl h1 h2 hmay
  | true =>
    obtain ⟨b, rfl, hb, _, _⟩ := mayB_true hmay
    have hP := (Pen.of_may hpx hmay).1
    by_cases h0 : askK kind raw.length l = 0
    · exact rwrite_good A pn pc pl b kind R rn rc raw T n c l last w hA hpn hpx hP hb hk0 hR hx hrn hrl hT hn hm hk h0
    · exact rwrite_ask A pn pc pl b kind R rn rc raw T n c l last w hA hpn hpx hP hb hk0 hrn hrl hT hn hm hk h0
end Go.Proofs.YtfcefhaaphieeaaGreat
