/-
  Walks: the document's first, pairs, merged.
-/
import Derived.Test.YtolcekbldpdmpaaBuildG
import Derived.Deep.RegionHeld3
namespace Go.Proofs.Ytolcekbldpdmpaa
open Go.RowKit

theorem elem_par : Elem Try.prog 58 63 2 32 := Elem.mk' Try.underlying58 (z := .agg #[.int .i64 0, .slice none 0 0]) (by kernel_rfl) rfl (by omega)
/-- A parcel: its tree, where its counts lie. -/
abbrev Pc := Tr × Nat × Nat
/-- How often each item is in a tree. -/
def ofV (n : Nat) (t : Tr) : List Int := (List.range n).map fun k => ((ofT k t : Nat) : Int)
theorem ofV_length (n : Nat) (t : Tr) : (ofV n t).length = n := by simp [ofV]
theorem ofV_nth (n : Nat) (t : Tr) (k : Nat) (h : k < n) : nthI (ofV n t) k = (ofT k t : Nat) := by simp [ofV, nthI, h]
/-- Parcels' cells. -/
def pcC (f : Nat → Nat) (n : Nat) (xs : List Pc) : List Value := prs (fun x : Pc => Value.int .i64 ((wtT f x.1 : Nat) : Int)) (fun x => Value.slice (some ⟨x.2.1, 0, none⟩) n x.2.2) xs
theorem pcC_length (f : Nat → Nat) (n : Nat) (xs : List Pc) : (pcC f n xs).length = xs.length * 2 := prs_length xs
theorem pcC_append (f : Nat → Nat) (n : Nat) (a b : List Pc) : pcC f n (a ++ b) = pcC f n a ++ pcC f n b := prs_append a b
theorem pcC_one (f : Nat → Nat) (n : Nat) (xs : List Pc) : ∀ u ∈ pcC f n xs, u.oneCell' = true := prs_one (fun _ => rfl) (fun _ => rfl) xs
theorem pcC_get (f : Nat → Nat) (n : Nat) (xs : List Pc) (i : Nat) (x : Pc) (h : xs[i]? = some x) : (pcC f n xs)[2 * i]? = some (.int .i64 ((wtT f x.1 : Nat) : Int)) ∧ (pcC f n xs)[2 * i + 1]? = some (.slice (some ⟨x.2.1, 0, none⟩) n x.2.2) := prs_get xs i x h
/-- The counts lie there. -/
def PcOk (n : Nat) (w : World) (xs : List Pc) : Prop := ∀ x ∈ xs, Arr w x.2.1 3 n (fun k => .int .i64 ((ofT k x.1 : Nat) : Int)) ∧ n ≤ x.2.2
theorem PcOk.below {n : Nat} {w w' : World} {xs : List Pc} (h : PcOk n w xs) (hb : Below w.heap.size w w') : PcOk n w' xs := fun x hx => ⟨Arr.below (h x hx).1 hb (Blk.lt (h x hx).1), (h x hx).2⟩
theorem PcOk.alloc {n : Nat} {w : World} {xs : List Pc} (h : PcOk n w xs) (o : Obj) : PcOk n (w.alloc o) xs := fun x hx => ⟨Arr.alloc (h x hx).1 o, (h x hx).2⟩
theorem PcOk.drew {n : Nat} {w : World} {xs : List Pc} (h : PcOk n w xs) : PcOk n w.drew xs := h
theorem PcOk.app {n : Nat} {w : World} {xs ys : List Pc} (h : PcOk n w xs) (k : PcOk n w ys) : PcOk n w (xs ++ ys) := fun x hx => (List.mem_append.1 hx).elim (h x) (k x)
theorem PcOk.nil_ (n : Nat) (w : World) : PcOk n w [] := fun x hx => by cases hx
/-- An append to parcels turns no counts. -/
theorem PcOk.grown {n : Nat} {W w w' : World} {xs : List Pc} {A : Option Addr} {k c : Nat} {vs : List Value} (h : PcOk n w xs) (hB : Builds W w 63 2 A k c vs) (hg : w.grownBy w' (Value.slice A k c).ownBlock) : PcOk n w' xs := fun x hx =>
  ⟨Blk.grown (h x hx).1 hg (fun e => own_blk_ne hB.2 (h x hx).1 (by decide) e.symm), (h x hx).2⟩
theorem arr_of {n g : Nat} {W w : World} {t : Tr} (h : Builds W w 3 1 (some ⟨g, 0, none⟩) n n (ints (ofV n t))) : Arr w g 3 n (fun k => .int .i64 ((ofT k t : Nat) : Int)) :=
  h.arr.congr fun k hk => by
    rw [ints_get _ _ (by rw [ofV_length]; exact hk), ofV_nth _ _ _ hk]; rfl
def trees (xs : List Pc) : List Tr := xs.map (·.1)
theorem ofV_leaf (n k : Nat) (hk : k < n) : (List.replicate n (Value.int .i64 0)).set k (.int .i64 1) = ints (ofV n (.leaf k)) := by
  apply List.ext_getElem
  · simp [ints, ofV]
  · intro i h1 h2
    simp only [List.length_set, List.length_replicate] at h1
    rw [List.getElem_set]
    simp only [ints, ofV, List.getElem_map, List.getElem_range, List.getElem_replicate]
    by_cases e : k = i
    · subst e; simp [ofT]
    · rw [if_neg e]
      have : ofT i (.leaf k) = 0 := by
        unfold ofT
        rw [if_neg]
        omega
      rw [this]; rfl
theorem zeros_ints (n : Nat) : (madeCells (Value.int .i64 0).cells (n * 1)).toList = List.replicate n (Value.int .i64 0) := by rw [Nat.mul_one, made_zeros _ rfl, zeros_list]

def ParRes (f : Nat → Nat) (n : Nat) (w w' : World) (e : Ending) (ts : List Tr) : Prop := ∃ A c xs, e = .returned (.slice A ts.length c) ∧ Builds w w' 63 2 A ts.length c (pcC f n xs) ∧ PcOk n w' xs ∧ trees xs = ts

set_option maxRecDepth 100000 in
set_option maxHeartbeats 4000000 in
theorem first_is (F : Option Addr) (nf cF : Nat) (fr : List Int) (I : Option Addr) (ni cI : Nat) (ys : List Int) (f : Nat → Nat) (w : World) (hF : Rd w F (ints fr)) (hI : Rd w I (ints ys)) (hn : nf = fr.length) (hni : ni = ys.length) (hs : ni ≤ 1000)
    (hit : ∀ k, k < ni → ∃ i : Nat, nthI ys k = (i : Int) ∧ i < nf ∧ nthI fr i = (f k : Int)) :
    Calls Try.prog 28 #[.slice F nf cF, .slice I ni cI] w fun e w' => ParRes f ni w w' e (itemsT ni) := by
  have HN := Lib.hid (And.intro hn hni)
  have HIt := Lib.hid hit
  clear hn hni hit
  go_enter Try.func28, Try.ntmps28
  go_wp2_with fail
  go_loopg [5, 6] ni (fun gk v5 v6 wr => ∃ (A : Option Addr) (c k : Nat) (xs : List Pc), k ≤ ni ∧ gk = ni - k ∧ v6 = .int .i64 (k : Int) ∧ v5 = .slice A k c ∧ Builds w wr 63 2 A k c (pcC f ni xs) ∧ Hid (PcOk ni wr xs ∧ trees xs = itemsT k))
  case atStart => exact ⟨none, 0, 0, [], by omega, rfl, rfl, rfl, Builds.nil_ _ _ _, Lib.hid ⟨PcOk.nil_ _ _, rfl⟩⟩
  case round =>
    obtain ⟨A, c, k, xs, hk, hgk, rfl, rfl, hB, HX⟩ := hrel
    have HG := Lib.hid hgk
    clear hgk
    by_cases hlt : k < ni
    · have hlt' : (k : Int) < (ni : Int) := by omega
      obtain ⟨it, hi1, hi2, hi3⟩ := HIt.out k hlt
      obtain ⟨b, off, rfl, hcell⟩ := hF.at_ (by rw [ints_length]; have := HN.out; omega)
      obtain ⟨b2, off2, rfl, hcell2⟩ := hI.at_ (by rw [ints_length]; have := HN.out; omega)
      have HCs := Lib.hid (fun (wx : World) (hb : Below wr.heap.size wr wx) => show wx.cell? ⟨b2, off2 + k, none⟩ = some (.int .i64 (it : Int)) ∧ wx.cell? ⟨b, off + it, none⟩ = some (.int .i64 (f k : Int)) from by
        have hbw := hB.1.trans (hb.mono hB.1.size)
        obtain ⟨_, _, e1, h1⟩ := (hF.below hbw).at_ (by rw [ints_length]; have := HN.out; omega)
        obtain ⟨_, _, e2, h2⟩ := (hI.below hbw).at_ (by rw [ints_length]; have := HN.out; omega)
        simp only [Option.some.injEq, Addr.mk.injEq, and_true] at e1 e2
        obtain ⟨rfl, rfl⟩ := e1
        obtain ⟨rfl, rfl⟩ := e2
        exact ⟨by rw [h2 k _ (ints_get ys k (by have := HN.out; omega)), hi1], by rw [h1 it _ (ints_get fr it (by have := HN.out; omega)), hi3]⟩)
      clear hcell hcell2 hi1 hi3
      go_upto_region 6 with (at_make; refine makes elem_num (z := .int .i64 0) (by kernel_rfl) rfl _ _ rfl ni rfl rfl rfl (by omega) (by omega) (List.replicate ni (.int .i64 0)) (zeros_ints ni) ?_; intro w5 hO)
      have co := Builds.cell hO k (by omega)
      rw [show (List.replicate ni (Value.int .i64 0))[k]? = some (.int .i64 0) by simp [hlt]] at co
      have fo := Builds.free hO k
      have hO2 := Builds.set hO k (by omega) (.int .i64 1)
      rw [ofV_leaf ni k hlt] at hO2
      go_upto_region 7 with (fail)
      generalize w5.setCell ⟨wr.heap.size, k, none⟩ (.int .i64 1) = w6 at *
      obtain ⟨c1, c2⟩ := HCs.out w6 hO2.1
      have hB6 := hB.below hO2.1
      have HY := Lib.hid (show PcOk ni w6 (xs ++ [(Tr.leaf k, wr.heap.size, ni)]) ∧ trees (xs ++ [(Tr.leaf k, wr.heap.size, ni)]) = itemsT (k + 1) from ⟨(HX.out.1.below hO2.1).app (fun x hx => by
          simp only [List.mem_cons, List.not_mem_nil, or_false] at hx
          subst hx
          exact ⟨arr_of hO2, Nat.le_refl _⟩), by unfold trees; rw [List.map_append, show xs.map (·.1) = itemsT k from HX.out.2]; simp [itemsT, List.range_succ]⟩)
      obtain ⟨GB, hGB⟩ : ∃ GB, wr.heap.size = GB := ⟨_, rfl⟩
      rw [hGB] at HY ⊢
      clear co fo hO hO2 HCs hGB HX
      obtain ⟨y, hy⟩ : ∃ y, f k = y := ⟨_, rfl⟩
      rw [hy] at c2
      have HNw := Lib.hid (show pcC f ni xs ++ [Value.int .i64 (y : Int), .slice (some ⟨GB, 0, none⟩) ni ni] = pcC f ni (xs ++ [(Tr.leaf k, GB, ni)]) by rw [pcC_append, ← hy]; rfl)
      clear hy
      go_wp2_with (at_builtin; refine grow elem_par rfl (.tmp 20) (.tmp 30) rfl rfl (hB6.alloc _) rfl (Rd.new' _ _ _ [Value.int .i64 (y : Int), .slice (some ⟨GB, 0, none⟩) ni ni] _ (by simp) rfl) rfl (by simp [Value.oneCell']) (k + 1) rfl (pcC f ni (xs ++ [(Tr.leaf k, GB, ni)])) HNw.out (by omega) (by omega) ?_; intro A2 c2' w7 hB7 hg7; have hK7 := (HY.out.1.alloc _).grown (hB6.alloc _) hg7)
      go_roundg (ni - (k + 1))
      case measure => have := HG.out; omega
      case rel => exact ⟨A2, c2', k + 1, _, by omega, rfl, by go_num, rfl, hB7, Lib.hid ⟨hK7, HY.out.2⟩⟩
    · obtain rfl : ni = k := by omega
      have hlt' : ¬ (ni : Int) < (ni : Int) := by omega
      have HL := Lib.hid (itemsT_length ni)
      go_wp2_with fail
      go_ret
      exact ⟨A, c, xs, by rw [HL.out]; rfl, by rw [HL.out]; exact hB, HX.out.1, HX.out.2⟩

/-- Two trees' counts, the first k of them. -/
def sV (n : Nat) (a b : Tr) (k : Nat) : List Int := (List.range n).map fun j => if j < k then ((ofT j a + ofT j b : Nat) : Int) else 0
theorem sV_length (n : Nat) (a b : Tr) (k : Nat) : (sV n a b k).length = n := by simp [sV]
theorem sV_zero (n : Nat) (a b : Tr) : List.replicate n (Value.int .i64 0) = ints (sV n a b 0) := by
  apply List.ext_getElem
  · simp [ints, sV]
  · intro i h1 h2; simp [ints, sV]
theorem sV_full (n : Nat) (a b : Tr) : sV n a b n = ofV n (.node a b) := by
  unfold sV ofV
  refine List.map_congr_left fun j hj => ?_
  rw [if_pos (List.mem_range.1 hj)]; rfl
theorem sV_step (n : Nat) (a b : Tr) (k : Nat) (v : Int) (hk : k < n) (hv : v = ((ofT k a + ofT k b : Nat) : Int)) : (ints (sV n a b k)).set k (.int .i64 v) = ints (sV n a b (k + 1)) := by
  subst hv
  apply List.ext_getElem
  · simp [ints, sV]
  · intro i h1 h2
    rw [List.getElem_set]
    simp only [ints, sV, List.getElem_map, List.getElem_range]
    by_cases e : k = i
    · subst e; rw [if_pos rfl, if_pos (by omega)]
    · rw [if_neg e]
      by_cases e2 : i < k
      · rw [if_pos e2, if_pos (by omega)]
      · rw [if_neg e2, if_neg (by omega)]
theorem trees_get {xs : List Pc} {i : Nat} (h : i < xs.length) : (trees xs)[i]? = some xs[i].1 := by simp [trees, h]
theorem trees_len (xs : List Pc) : (trees xs).length = xs.length := by simp [trees]

set_option maxRecDepth 100000 in
set_option maxHeartbeats 8000000 in
theorem pairs_is (R : Option Addr) (nr cR : Nat) (xs : List Pc) (f : Nat → Nat) (n : Nat) (w : World) (hR : Rd w R (pcC f n xs)) (hx : PcOk n w xs) (hnr : nr = xs.length) (hr : nr ≤ 1000) (hn : n ≤ 1000) (hM : ∀ x ∈ xs, wtT f x.1 ≤ 1000000000000000000 ∧ ∀ k, ofT k x.1 ≤ 1000000000000000000) :
    Calls Try.prog 30 #[.slice R nr cR] w fun e w' => ParRes f n w w' e (pairT (trees xs)) := by
  have HN := Lib.hid hnr
  have HX := Lib.hid hx
  have HM := Lib.hid hM
  clear hnr hx hM
  go_enter Try.func30, Try.ntmps30
  go_wp2_with fail
  go_loopg [3, 4] nr (fun gk v3 v4 wr => ∃ (A : Option Addr) (c m i : Nat) (zs : List Pc), i = 2 * m ∧ i ≤ nr ∧ gk = nr - i ∧ v4 = .int .i64 (i : Int) ∧ v3 = .slice A m c ∧ Builds w wr 63 2 A m c (pcC f n zs) ∧ Hid (PcOk n wr zs ∧ trees zs = (pairT (trees xs)).take m))
  case atStart => exact ⟨none, 0, 0, 0, [], rfl, by omega, rfl, rfl, rfl, Builds.nil_ _ _ _, Lib.hid ⟨PcOk.nil_ _ _, rfl⟩⟩
  case round =>
    obtain ⟨A, c, m, i, zs, him, hi, hgk, rfl, rfl, hB, HZ⟩ := hrel
    have HG := Lib.hid (And.intro hgk him)
    have hmi : m ≤ i := by omega
    clear hgk him
    by_cases hlt : i + 1 < nr
    · have hlt' : (i : Int) + 1 < (nr : Int) := by omega
      obtain ⟨i1, hi1⟩ : ∃ i1, i + 1 = i1 := ⟨_, rfl⟩
      obtain ⟨i2, hi2⟩ : ∃ i2, i + 2 = i2 := ⟨_, rfl⟩
      have ei1 : (i : Int) + 1 = (i1 : Int) := by omega
      have ei2 : (i : Int) + 2 = (i2 : Int) := by omega
      have hin : i < nr := by omega
      have hi1n : i1 < nr := by omega
      have hi2n : i2 ≤ 1001 := by omega
      have hil : i < xs.length := by have := HN.out; omega
      have hi1l : i1 < xs.length := by have := HN.out; omega
      obtain ⟨⟨ta, ga, ca⟩, hxa⟩ : ∃ x, xs[i] = x := ⟨_, rfl⟩
      obtain ⟨⟨tb, gb, cb⟩, hxb⟩ : ∃ x, xs[i1] = x := ⟨_, rfl⟩
      have oka := HX.out (ta, ga, ca) (by rw [← hxa]; exact List.getElem_mem hil)
      have okb := HX.out (tb, gb, cb) (by rw [← hxb]; exact List.getElem_mem hi1l)
      have ma := HM.out (ta, ga, ca) (by rw [← hxa]; exact List.getElem_mem hil)
      have mb := HM.out (tb, gb, cb) (by rw [← hxb]; exact List.getElem_mem hi1l)
      dsimp only at oka okb ma mb
      have hga := pcC_get f n xs i _ (by rw [List.getElem?_eq_getElem hil, hxa])
      have hgb := pcC_get f n xs i1 _ (by rw [List.getElem?_eq_getElem hi1l, hxb])
      dsimp only at hga hgb
      have hpg : (pairT (trees xs))[m]? = some (.node ta tb) := pairT_get _ m ta tb (by rw [← HG.out.2, trees_get hil, hxa]) (by rw [← HG.out.2, hi1, trees_get hi1l, hxb])
      obtain ⟨b, off, hRe, hcell⟩ := hR.at_ (by rw [pcC_length]; omega)
      subst hRe
      have HC := Lib.hid (fun (wx : World) (hb : Below w.heap.size w wx) => show wx.cell? ⟨b, off + i * 2, none⟩ = some (.int .i64 ((wtT f ta : Nat) : Int)) ∧ wx.cell? ⟨b, off + i * 2 + 1, none⟩ = some (.slice (some ⟨ga, 0, none⟩) n ca) ∧ wx.cell? ⟨b, off + i1 * 2, none⟩ = some (.int .i64 ((wtT f tb : Nat) : Int)) ∧ wx.cell? ⟨b, off + i1 * 2 + 1, none⟩ = some (.slice (some ⟨gb, 0, none⟩) n cb) ∧
          (∀ k, k < n → wx.cell? ⟨ga, k, none⟩ = some (.int .i64 ((ofT k ta : Nat) : Int)) ∧ wx.cell? ⟨gb, k, none⟩ = some (.int .i64 ((ofT k tb : Nat) : Int))) from by
        obtain ⟨_, _, e1, h1⟩ := (hR.below hb).at_ (by rw [pcC_length]; omega)
        simp only [Option.some.injEq, Addr.mk.injEq, and_true] at e1
        obtain ⟨rfl, rfl⟩ := e1
        refine ⟨?_, ?_, ?_, ?_, fun k hk => ⟨?_, ?_⟩⟩
        · have := h1 _ _ hga.1; rw [show off + 2 * i = off + i * 2 by omega] at this; exact this
        · have := h1 _ _ hga.2; rw [show off + (2 * i + 1) = off + i * 2 + 1 by omega] at this; exact this
        · have := h1 _ _ hgb.1; rw [show off + 2 * i1 = off + i1 * 2 by omega] at this; exact this
        · have := h1 _ _ hgb.2; rw [show off + (2 * i1 + 1) = off + i1 * 2 + 1 by omega] at this; exact this
        · exact Arr.cell (Arr.below oka.1 hb (Blk.lt oka.1)) k hk
        · exact Arr.cell (Arr.below okb.1 hb (Blk.lt okb.1)) k hk)
      obtain ⟨c1, c2, c3, c4, -⟩ := HC.out wr hB.1
      have hca := oka.2
      have hcb := okb.2
      have HP := Lib.hid hpg
      have hma := ma.1
      have hmb := mb.1
      have HMk := Lib.hid (And.intro ma.2 mb.2)
      have HI2 := Lib.hid (And.intro hi1 hi2)
      clear hcell hga hgb hpg hxa hxb oka okb ma mb hi1 hi2
      go_upto_region 6 with (at_make; refine makes elem_num (z := .int .i64 0) (by kernel_rfl) rfl _ _ rfl n rfl rfl rfl (by omega) (by omega) (List.replicate n (.int .i64 0)) (zeros_ints n) ?_; intro w5 hO)
      rw [sV_zero n ta tb] at hO
      obtain ⟨GB, hGB⟩ : ∃ GB, wr.heap.size = GB := ⟨_, rfl⟩
      rw [hGB] at hO ⊢
      have HGB := Lib.hid hGB
      clear hGB c1 c2 c3 c4
      generalize hWr : wr = WR at *
      clear hWr
      go_wp2_with fail
      go_loopg [6] n (fun gj v6 wr => ∃ k : Nat, k ≤ n ∧ gj = n - k ∧ v6 = .int .i64 (k : Int) ∧ Builds WR wr 3 1 (some ⟨GB, 0, none⟩) n n (ints (sV n ta tb k)))
      case atStart => exact ⟨0, by omega, rfl, rfl, hO⟩
      case round =>
        clear hO
        obtain ⟨k, hk, hgj, rfl, hO⟩ := hrel
        have HG2 := Lib.hid hgj
        clear hgj
        have hbw := hB.1.trans (hO.1.mono hB.1.size)
        by_cases hkn : k < n
        · have hkn' : (k : Int) < (n : Int) := by omega
          obtain ⟨c1, c2, c3, c4, hk5⟩ := HC.out wr hbw
          obtain ⟨c5, c6⟩ := hk5 k hkn
          have co := Builds.cell hO k (by omega)
          rw [ints_get _ _ (by rw [sV_length]; exact hkn)] at co
          have fo := Builds.free hO k
          have mk1 := HMk.out.1 k
          have mk2 := HMk.out.2 k
          have HSt := Lib.hid (fun (v : Int) (hv : v = ((ofT k ta + ofT k tb : Nat) : Int)) => show Builds WR (wr.setCell ⟨GB, k, none⟩ (.int .i64 v)).drew 3 1 (some ⟨GB, 0, none⟩) n n (ints (sV n ta tb (k + 1))) from by
            have := Builds.set hO k (by omega) (.int .i64 v)
            rw [sV_step n ta tb k v hkn hv] at this
            exact this.drew)
          obtain ⟨x1, hx1⟩ : ∃ x1, ofT k ta = x1 := ⟨_, rfl⟩
          obtain ⟨x2, hx2⟩ : ∃ x2, ofT k tb = x2 := ⟨_, rfl⟩
          rw [hx1, hx2] at HSt
          rw [hx1] at c5 mk1
          rw [hx2] at c6 mk2
          obtain ⟨x3, hx3⟩ : ∃ x3, x1 + x2 = x3 := ⟨_, rfl⟩
          have ex : (x1 : Int) + (x2 : Int) = (x3 : Int) := by omega
          have hx3l : x3 ≤ 2000000000000000000 := by omega
          rw [hx3] at HSt
          clear hx1 hx2 hx3 hk5 hO hbw
          generalize hw0 : wr = w0 at *
          clear hw0
          go_wp2_with fail
          go_region
          have hO2 := HSt.out _ rfl
          generalize (w0.setCell ⟨GB, k, none⟩ (.int .i64 (x3 : Int))).drew = w6 at *
          clear c1 c2 c3 c4 c5 c6 co fo HSt
          go_wp2_with fail
          go_roundg (n - (k + 1))
          case measure => have := HG2.out; omega
          case rel => exact ⟨k + 1, by omega, rfl, by go_num, hO2⟩
        · obtain rfl : n = k := by omega
          have hkn' : ¬ (n : Int) < (n : Int) := by omega
          rw [sV_full] at hO
          obtain ⟨c1, c2, c3, c4, -⟩ := HC.out wr hbw
          have hB5 := hB.below hO.1
          have HY := Lib.hid (show PcOk n wr (zs ++ [(Tr.node ta tb, GB, n)]) ∧ trees (zs ++ [(Tr.node ta tb, GB, n)]) = (pairT (trees xs)).take (m + 1) from ⟨(HZ.out.1.below hO.1).app (fun x hx => by
              simp only [List.mem_cons, List.not_mem_nil, or_false] at hx
              subst hx
              exact ⟨arr_of hO, Nat.le_refl _⟩), by
            rw [List.take_add_one, HP.out]
            unfold trees
            rw [List.map_append, show zs.map (·.1) = _ from HZ.out.2]; rfl⟩)
          obtain ⟨y1, hy1⟩ : ∃ y1, wtT f ta = y1 := ⟨_, rfl⟩
          obtain ⟨y2, hy2⟩ : ∃ y2, wtT f tb = y2 := ⟨_, rfl⟩
          obtain ⟨y3, hy3⟩ : ∃ y3, y1 + y2 = y3 := ⟨_, rfl⟩
          rw [hy1] at c1 hma
          rw [hy2] at c3 hmb
          have ey : (y1 : Int) + (y2 : Int) = (y3 : Int) := by omega
          have hy3l : y3 ≤ 2000000000000000000 := by omega
          have HNw := Lib.hid (show pcC f n zs ++ [Value.int .i64 (y3 : Int), .slice (some ⟨GB, 0, none⟩) n n] = pcC f n (zs ++ [(Tr.node ta tb, GB, n)]) by rw [pcC_append, ← hy3, ← hy1, ← hy2]; rfl)
          have HW1 := Lib.hid hy1
          have HW2 := Lib.hid hy2
          clear hy1 hy2 hy3 hO hbw hB
          generalize hw0 : wr = w0 at *
          clear hw0
          go_wp2_with fail
          have hwi : IntKind.i64.wrap ((i : Int) + 1) = (i1 : Int) := by rw [ei1]; exact IntWalk.i64_in _ (by omega)
          have hwi2 : IntKind.i64.wrap (i1 : Int) = (i1 : Int) := IntWalk.i64_in _ (by omega)
          have hwy : IntKind.i64.wrap ((y1 : Int) + (y2 : Int)) = (y3 : Int) := by rw [ey]; exact IntWalk.i64_in _ (by omega)
          have hwy2 : IntKind.i64.wrap (y3 : Int) = (y3 : Int) := IntWalk.i64_in _ (by omega)
          have hbi : (i1 : Int) < (nr : Int) := by omega
          have hbi0 : (i : Int) < (nr : Int) := by omega
          have hbn : (0 : Int) ≤ (i1 : Int) := by omega
          have s0 := And.intro c1 c3
          have HSA := Lib.hid (fun (o : Obj) => show (w0.drew.alloc o).cell? ⟨b, off + i * 2, none⟩ = some (.int .i64 (y1 : Int)) ∧ (w0.drew.alloc o).cell? ⟨b, off + i1 * 2, none⟩ = some (.int .i64 (y2 : Int)) from by
            obtain ⟨h1, _, h3, _, _⟩ := HC.out (w0.drew.alloc o) (hB5.drew.alloc o).1
            rw [HW1.out] at h1
            rw [HW2.out] at h3
            exact ⟨h1, h3⟩)
          have HSB := Lib.hid (fun (wx : World) (hb : Below w.heap.size w wx) => show wx.cell? ⟨b, off + i * 2, none⟩ = some (.int .i64 (y1 : Int)) ∧ wx.cell? ⟨b, off + i1 * 2, none⟩ = some (.int .i64 (y2 : Int)) from by
            obtain ⟨h1, _, h3, _, _⟩ := HC.out wx hb
            rw [HW1.out] at h1
            rw [HW2.out] at h3
            exact ⟨h1, h3⟩)
          clear c1 c2 c3 c4
          go_region_held3 (fun wx => wx.cell? ⟨b, off + i * 2, none⟩ = some (.int .i64 (y1 : Int)) ∧ wx.cell? ⟨b, off + i1 * 2, none⟩ = some (.int .i64 (y2 : Int))) (first | exact s0 | exact HSA.out _ | exact HSB.out _ hB7.1 | exact HSB.out _ (hB5.drew.alloc _).1 | exact HSB.out _ (hB5.alloc _).drew.1 | exact HSB.out _ (hB5.alloc _).1) (first
            | (refine step_grow elem_par rfl (.tmp 48) (.tmp 63) rfl rfl (by first | exact hB5.drew.alloc _ | exact (hB5.alloc _).drew | exact hB5.alloc _ | exact (hB5.drewN _).alloc _) rfl (Rd.new' _ _ _ [Value.int .i64 (y3 : Int), .slice (some ⟨GB, 0, none⟩) n n] _ (by simp) rfl) rfl (by simp [Value.oneCell']) (m + 1) rfl (pcC f n (zs ++ [(Tr.node ta tb, GB, n)])) HNw.out (by omega) (by omega) ?_; intro A2 c2' w7 hB7 hg7; have hK7 := PcOk.grown (by first | exact (PcOk.drew HY.out.1).alloc _ | exact (HY.out.1.alloc _) ) (by first | exact hB5.drew.alloc _ | exact hB5.alloc _) hg7))
          go_wp2_with fail
          go_roundg (nr - i2)
          case measure => have := HG.out; have := HI2.out; omega
          case rel => exact ⟨A2, c2', m + 1, i2, _, by have := HG.out.2; have := HI2.out.2; omega, by have := HI2.out; omega, rfl, by go_num, rfl, hB7, Lib.hid ⟨hK7, HY.out.2⟩⟩
    · have hlt' : ¬ (i : Int) + 1 < (nr : Int) := by omega
      have hml : (pairT (trees xs)).length = m := by rw [pairT_length, trees_len]; have := HG.out.2; have := HN.out; omega
      have HL := Lib.hid (And.intro hml (show trees zs = pairT (trees xs) by rw [HZ.out.2, List.take_of_length_le (by omega)]))
      clear hml
      go_wp2_with fail
      go_ret
      exact ⟨A, c, zs, by rw [HL.out.1]; rfl, by rw [HL.out.1]; exact hB, HZ.out.1, HL.out.2⟩
end Go.Proofs.Ytolcekbldpdmpaa
