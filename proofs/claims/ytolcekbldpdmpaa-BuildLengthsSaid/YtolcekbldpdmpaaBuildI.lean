/-
  Walks: the document's merged.
-/
import Derived.Test.YtolcekbldpdmpaaBuildH
namespace Go.Proofs.Ytolcekbldpdmpaa
open Go.RowKit

/-- Parcels by weight. -/
def leC (f : Nat → Nat) (a b : Pc) : Bool := decide (wtT f a.1 ≤ wtT f b.1)
theorem trees_mrg (f : Nat → Nat) (xs ys : List Pc) : trees (mrg (leC f) xs ys) = mrg (leT f) (trees xs) (trees ys) := mrg_map (leC f) (leT f) (·.1) (fun _ _ => rfl) xs ys
theorem mrg_left {f : Nat → Nat} {xs ys : List Pc} {i k : Nat} (hi : i < xs.length) (h : k < ys.length → ∀ (hk : k < ys.length), wtT f xs[i].1 ≤ wtT f ys[k].1) (hk : k ≤ ys.length) : mrg (leC f) (xs.drop i) (ys.drop k) = xs[i] :: mrg (leC f) (xs.drop (i + 1)) (ys.drop k) := by
  rw [List.drop_eq_getElem_cons hi]
  rcases Nat.lt_or_ge k ys.length with h1 | h1
  · rw [List.drop_eq_getElem_cons h1, mrg_cons, if_pos (show leC f _ _ = true from decide_eq_true (h h1 h1))]
  · rw [List.drop_eq_nil_of_le h1, mrg_cons_nil]
theorem mrg_right {f : Nat → Nat} {xs ys : List Pc} {i k : Nat} (hk : k < ys.length) (h : ∀ (hi : i < xs.length), wtT f ys[k].1 < wtT f xs[i].1) (hi : i ≤ xs.length) : mrg (leC f) (xs.drop i) (ys.drop k) = ys[k] :: mrg (leC f) (xs.drop i) (ys.drop (k + 1)) := by
  rw [List.drop_eq_getElem_cons hk]
  rcases Nat.lt_or_ge i xs.length with h1 | h1
  · rw [List.drop_eq_getElem_cons h1, mrg_cons, if_neg]
    have := h h1
    simp only [leC, decide_eq_true_eq]; omega
  · rw [List.drop_eq_nil_of_le h1]; rfl
theorem mrg_done {f : Nat → Nat} {xs ys : List Pc} {i k : Nat} (hi : xs.length ≤ i) (hk : ys.length ≤ k) : mrg (leC f) (xs.drop i) (ys.drop k) = [] := by
  rw [List.drop_eq_nil_of_le hi, List.drop_eq_nil_of_le hk]; rfl

set_option maxRecDepth 100000 in
set_option maxHeartbeats 8000000 in
theorem merged_is (I : Option Addr) (ni cI : Nat) (xs : List Pc) (M : Option Addr) (nm cM : Nat) (ys : List Pc) (f : Nat → Nat) (n : Nat) (w : World) (hI : Rd w I (pcC f n xs)) (hx : PcOk n w xs) (hM : Rd w M (pcC f n ys)) (hy : PcOk n w ys) (hni : ni = xs.length) (hnm : nm = ys.length) (h1 : ni ≤ 1000) (h2 : nm ≤ 1000) :
    Calls Try.prog 29 #[.slice I ni cI, .slice M nm cM] w fun e w' => ParRes f n w w' e (mrg (leT f) (trees xs) (trees ys)) := by
  have HN := Lib.hid (And.intro hni hnm)
  have HX := Lib.hid (And.intro hx hy)
  have H0 : Hid (([] : List Pc) ++ mrg (leC f) (xs.drop 0) (ys.drop 0) = mrg (leC f) xs ys) := Lib.hid rfl
  clear hni hnm hx hy
  go_enter Try.func29, Try.ntmps29
  go_wp2_with fail
  go_loopg [5, 6, 7] (ni + nm) (fun gk v5 v6 v7 wr => ∃ (A : Option Addr) (c i k m : Nat) (zs : List Pc), i ≤ ni ∧ k ≤ nm ∧ gk = ni + nm - (i + k) ∧ v6 = .int .i64 (i : Int) ∧ v7 = .int .i64 (k : Int) ∧ v5 = .slice A m c ∧ Builds w wr 63 2 A m c (pcC f n zs) ∧ Hid (PcOk n wr zs ∧ zs ++ mrg (leC f) (xs.drop i) (ys.drop k) = mrg (leC f) xs ys ∧ m = i + k))
  case atStart => exact ⟨none, 0, 0, 0, 0, [], by omega, by omega, rfl, rfl, rfl, rfl, Builds.nil_ _ _ _, Lib.hid ⟨PcOk.nil_ _ _, H0.out, rfl⟩⟩
  case round =>
    clear H0
    obtain ⟨A, c, i, k, m, zs, hi, hk, hgk, rfl, rfl, rfl, hB, HZ⟩ := hrel
    have HG := Lib.hid hgk
    clear hgk
    have hml : m ≤ 2000 := by have := HZ.out.2.2; omega
    have HCi := Lib.hid (fun (wx : World) (hb : Below w.heap.size w wx) (hil : i < xs.length) => show ∃ b off, I = some ⟨b, off, none⟩ ∧ wx.cell? ⟨b, off + i * 2, none⟩ = some (.int .i64 ((wtT f xs[i].1 : Nat) : Int)) ∧ wx.cell? ⟨b, off + i * 2 + 1, none⟩ = some (.slice (some ⟨xs[i].2.1, 0, none⟩) n xs[i].2.2) from by
      obtain ⟨b, off, e1, h1⟩ := (hI.below hb).at_ (by rw [pcC_length]; omega)
      have hg := pcC_get f n xs i _ (List.getElem?_eq_getElem hil)
      refine ⟨b, off, e1, ?_, ?_⟩
      · have := h1 _ _ hg.1; rw [show off + 2 * i = off + i * 2 by omega] at this; exact this
      · have := h1 _ _ hg.2; rw [show off + (2 * i + 1) = off + i * 2 + 1 by omega] at this; exact this)
    have HCk := Lib.hid (fun (wx : World) (hb : Below w.heap.size w wx) (hkl : k < ys.length) => show ∃ b off, M = some ⟨b, off, none⟩ ∧ wx.cell? ⟨b, off + k * 2, none⟩ = some (.int .i64 ((wtT f ys[k].1 : Nat) : Int)) ∧ wx.cell? ⟨b, off + k * 2 + 1, none⟩ = some (.slice (some ⟨ys[k].2.1, 0, none⟩) n ys[k].2.2) from by
      obtain ⟨b, off, e1, h1⟩ := (hM.below hb).at_ (by rw [pcC_length]; omega)
      have hg := pcC_get f n ys k _ (List.getElem?_eq_getElem hkl)
      refine ⟨b, off, e1, ?_, ?_⟩
      · have := h1 _ _ hg.1; rw [show off + 2 * k = off + k * 2 by omega] at this; exact this
      · have := h1 _ _ hg.2; rw [show off + (2 * k + 1) = off + k * 2 + 1 by omega] at this; exact this)
    by_cases hdone : ni ≤ i ∧ nm ≤ k
    · obtain rfl : ni = i := by omega
      obtain rfl : nm = k := by omega
      have d1 : decide ((ni : Int) < (ni : Int)) = false := decide_eq_false (by omega)
      have d2 : decide ((nm : Int) < (nm : Int)) = false := decide_eq_false (by omega)
      have hl : (mrg (leT f) (trees xs) (trees ys)).length = m := by rw [mrg_length, trees_len, trees_len]; have := HZ.out.2.2; have := HN.out; omega
      have ht : trees zs = mrg (leT f) (trees xs) (trees ys) := by
        have := HZ.out.2.1
        rw [mrg_done (by have := HN.out.1; omega) (by have := HN.out.2; omega), List.append_nil] at this
        rw [this, trees_mrg]
      have HL := Lib.hid (And.intro hl ht)
      clear hl ht
      go_wp2_with fail
      go_ret
      exact ⟨A, c, zs, by rw [HL.out.1]; rfl, by rw [HL.out.1]; exact hB, HZ.out.1, HL.out.2⟩
    · -- which one comes next
      have hways : (i < ni ∧ k = nm) ∨ (i = ni ∧ k < nm) ∨ (i < ni ∧ k < nm) := by omega
      clear hdone
      rcases hways with ⟨y1, y2⟩ | ⟨y1, y2⟩ | ⟨y1, y2⟩
      · have t1 : decide ((i : Int) < (ni : Int)) = true := decide_eq_true (by omega)
        have t2 : ((k : Int) == (nm : Int)) = true := by rw [beq_iff_eq]; omega
        have hil : i < xs.length := by have := HN.out; omega
        have HNx := Lib.hid (mrg_left (f := f) (xs := xs) (ys := ys) (i := i) (k := k) hil (fun h => by have := HN.out; omega) (by have := HN.out; omega))
        obtain ⟨x, hx⟩ : ∃ x, xs[i] = x := ⟨_, rfl⟩
        have okx : PcOk n wr [x] := fun z hz => by
          simp only [List.mem_cons, List.not_mem_nil, or_false] at hz
          subst hz
          exact ⟨Arr.below (HX.out.1 _ (by rw [← hx]; exact List.getElem_mem hil)).1 hB.1 (Blk.lt (HX.out.1 _ (by rw [← hx]; exact List.getElem_mem hil)).1), (HX.out.1 _ (by rw [← hx]; exact List.getElem_mem hil)).2⟩
        obtain ⟨bi9, oi9, ei, ci1, ci2⟩ := HCi.out wr hB.1 hil
        first | subst ei | (simp only [Option.some.injEq, Addr.mk.injEq, and_true] at ei; obtain ⟨rfl, rfl⟩ := ei)
        rw [hx] at ci1 ci2 HNx
        obtain ⟨tx, gx, cx⟩ := x
        dsimp only at ci1 ci2
        obtain ⟨y, hy⟩ : ∃ y, wtT f tx = y := ⟨_, rfl⟩
        rw [hy] at ci1
        have HNw := Lib.hid (show pcC f n zs ++ [Value.int .i64 (y : Int), .slice (some ⟨gx, 0, none⟩) n cx] = pcC f n (zs ++ [(tx, gx, cx)]) by rw [pcC_append, ← hy]; rfl)
        have HY := Lib.hid (HZ.out.1.app okx)
        have HEq := Lib.hid (show (zs ++ [(tx, gx, cx)]) ++ mrg (leC f) (xs.drop (i + 1)) (ys.drop k) = mrg (leC f) xs ys by rw [← HZ.out.2.1, HNx.out, List.append_assoc]; rfl)
        have hm1 := HZ.out.2.2
        have HM1 := Lib.hid hm1
        clear hx hy okx HNx hm1
        go_wp2_with fail
        go_quiet (fail)
        have hB4 := hB.drewN nq
        have HY4 : Hid (PcOk n (wr.drewN nq) (zs ++ [(tx, gx, cx)])) := Lib.hid HY.out
        have d1 : (wr.drewN nq).cell? ⟨bi9, oi9 + i * 2, none⟩ = some (.int .i64 (y : Int)) := ci1
        have d2 : (wr.drewN nq).cell? ⟨bi9, oi9 + i * 2 + 1, none⟩ = some (.slice (some ⟨gx, 0, none⟩) n cx) := ci2
        clear hB HY HCi HCk ci1 ci2
        generalize wr.drewN nq = w4 at *
        go_wp2_with (at_builtin; refine grow elem_par rfl (.tmp 41) (.tmp 46) rfl rfl (hB4.alloc _) rfl (Rd.new' _ _ _ [Value.int .i64 (y : Int), .slice (some ⟨gx, 0, none⟩) n cx] _ (by simp) rfl) rfl (by simp [Value.oneCell']) (m + 1) rfl (pcC f n (zs ++ [(tx, gx, cx)])) HNw.out (by omega) (by omega) ?_; intro A2 c2 w7 hB7 hg7; have hK7 := (HY4.out.alloc _).grown (hB4.alloc _) hg7)
        go_roundg (ni + nm - (i + 1 + k))
        case measure => have := HG.out; omega
        case rel => exact ⟨A2, c2, i + 1, k, m + 1, _, by omega, by omega, rfl, by go_num, (by first | rfl | rw [y2]), rfl, hB7, Lib.hid ⟨hK7, HEq.out, by have := HM1.out; omega⟩⟩
      · have t1 : decide ((i : Int) < (ni : Int)) = false := decide_eq_false (by omega)
        have t3 : decide ((k : Int) < (nm : Int)) = true := decide_eq_true (by omega)
        have t2 : ((k : Int) == (nm : Int)) = false := by rw [beq_eq_false_iff_ne]; omega
        have hil : k < ys.length := by have := HN.out; omega
        have HNx := Lib.hid (mrg_right (f := f) (xs := xs) (ys := ys) (i := i) (k := k) hil (fun h => by have := HN.out; omega) (by have := HN.out; omega))
        obtain ⟨x, hx⟩ : ∃ x, ys[k] = x := ⟨_, rfl⟩
        have okx : PcOk n wr [x] := fun z hz => by
          simp only [List.mem_cons, List.not_mem_nil, or_false] at hz
          subst hz
          exact ⟨Arr.below (HX.out.2 _ (by rw [← hx]; exact List.getElem_mem hil)).1 hB.1 (Blk.lt (HX.out.2 _ (by rw [← hx]; exact List.getElem_mem hil)).1), (HX.out.2 _ (by rw [← hx]; exact List.getElem_mem hil)).2⟩
        obtain ⟨bk9, ok9, ek, ck1, ck2⟩ := HCk.out wr hB.1 hil
        first | subst ek | (simp only [Option.some.injEq, Addr.mk.injEq, and_true] at ek; obtain ⟨rfl, rfl⟩ := ek)
        rw [hx] at ck1 ck2 HNx
        obtain ⟨tx, gx, cx⟩ := x
        dsimp only at ck1 ck2
        obtain ⟨y, hy⟩ : ∃ y, wtT f tx = y := ⟨_, rfl⟩
        rw [hy] at ck1
        have HNw := Lib.hid (show pcC f n zs ++ [Value.int .i64 (y : Int), .slice (some ⟨gx, 0, none⟩) n cx] = pcC f n (zs ++ [(tx, gx, cx)]) by rw [pcC_append, ← hy]; rfl)
        have HY := Lib.hid (HZ.out.1.app okx)
        have HEq := Lib.hid (show (zs ++ [(tx, gx, cx)]) ++ mrg (leC f) (xs.drop i) (ys.drop (k + 1)) = mrg (leC f) xs ys by rw [← HZ.out.2.1, HNx.out, List.append_assoc]; rfl)
        have hm1 := HZ.out.2.2
        have HM1 := Lib.hid hm1
        clear hx hy okx HNx hm1
        go_wp2_with fail
        go_quiet (fail)
        have hB4 := hB.drewN nq
        have HY4 : Hid (PcOk n (wr.drewN nq) (zs ++ [(tx, gx, cx)])) := Lib.hid HY.out
        have d1 : (wr.drewN nq).cell? ⟨bk9, ok9 + k * 2, none⟩ = some (.int .i64 (y : Int)) := ck1
        have d2 : (wr.drewN nq).cell? ⟨bk9, ok9 + k * 2 + 1, none⟩ = some (.slice (some ⟨gx, 0, none⟩) n cx) := ck2
        clear hB HY HCi HCk ck1 ck2
        generalize wr.drewN nq = w4 at *
        go_wp2_with (at_builtin; refine grow elem_par rfl (.tmp 50) (.tmp 55) rfl rfl (hB4.alloc _) rfl (Rd.new' _ _ _ [Value.int .i64 (y : Int), .slice (some ⟨gx, 0, none⟩) n cx] _ (by simp) rfl) rfl (by simp [Value.oneCell']) (m + 1) rfl (pcC f n (zs ++ [(tx, gx, cx)])) HNw.out (by omega) (by omega) ?_; intro A2 c2 w7 hB7 hg7; have hK7 := (HY4.out.alloc _).grown (hB4.alloc _) hg7)
        go_roundg (ni + nm - (i + (k + 1)))
        case measure => have := HG.out; omega
        case rel => exact ⟨A2, c2, i, k + 1, m + 1, _, by omega, by omega, rfl, (by first | rfl | rw [y1]), by go_num, rfl, hB7, Lib.hid ⟨hK7, HEq.out, by have := HM1.out; omega⟩⟩
      · have hil0 : i < xs.length := by have := HN.out; omega
        have hkl0 : k < ys.length := by have := HN.out; omega
        obtain ⟨bi, oi, ei0, ci0, -⟩ := HCi.out wr hB.1 hil0
        obtain ⟨bk, ok, ek0, ck0, -⟩ := HCk.out wr hB.1 hkl0
        subst ei0
        subst ek0
        obtain ⟨u, hu⟩ : ∃ u, wtT f xs[i].1 = u := ⟨_, rfl⟩
        obtain ⟨v, hv⟩ : ∃ v, wtT f ys[k].1 = v := ⟨_, rfl⟩
        rw [hu] at ci0
        rw [hv] at ck0
        have t1 : decide ((i : Int) < (ni : Int)) = true := decide_eq_true (by omega)
        have t2 : ((k : Int) == (nm : Int)) = false := by rw [beq_eq_false_iff_ne]; omega
        by_cases hle : u ≤ v
        · have t3 : decide ((u : Int) ≤ (v : Int)) = true := decide_eq_true (by omega)
          have hil : i < xs.length := by have := HN.out; omega
          have HNx := Lib.hid (mrg_left (f := f) (xs := xs) (ys := ys) (i := i) (k := k) hil (fun _ _ => by rw [hu, hv]; exact hle) (by have := HN.out; omega))
          obtain ⟨x, hx⟩ : ∃ x, xs[i] = x := ⟨_, rfl⟩
          have okx : PcOk n wr [x] := fun z hz => by
            simp only [List.mem_cons, List.not_mem_nil, or_false] at hz
            subst hz
            exact ⟨Arr.below (HX.out.1 _ (by rw [← hx]; exact List.getElem_mem hil)).1 hB.1 (Blk.lt (HX.out.1 _ (by rw [← hx]; exact List.getElem_mem hil)).1), (HX.out.1 _ (by rw [← hx]; exact List.getElem_mem hil)).2⟩
          obtain ⟨bi9, oi9, ei, ci1, ci2⟩ := HCi.out wr hB.1 hil
          first | subst ei | (simp only [Option.some.injEq, Addr.mk.injEq, and_true] at ei; obtain ⟨rfl, rfl⟩ := ei)
          rw [hx] at ci1 ci2 HNx
          clear hu hv
          obtain ⟨tx, gx, cx⟩ := x
          dsimp only at ci1 ci2
          obtain ⟨y, hy⟩ : ∃ y, wtT f tx = y := ⟨_, rfl⟩
          rw [hy] at ci1
          have HNw := Lib.hid (show pcC f n zs ++ [Value.int .i64 (y : Int), .slice (some ⟨gx, 0, none⟩) n cx] = pcC f n (zs ++ [(tx, gx, cx)]) by rw [pcC_append, ← hy]; rfl)
          have HY := Lib.hid (HZ.out.1.app okx)
          have HEq := Lib.hid (show (zs ++ [(tx, gx, cx)]) ++ mrg (leC f) (xs.drop (i + 1)) (ys.drop k) = mrg (leC f) xs ys by rw [← HZ.out.2.1, HNx.out, List.append_assoc]; rfl)
          have hm1 := HZ.out.2.2
          have HM1 := Lib.hid hm1
          clear hx hy okx HNx hm1
          go_wp2_with fail
          go_quiet (fail)
          have hB4 := hB.drewN nq
          have HY4 : Hid (PcOk n (wr.drewN nq) (zs ++ [(tx, gx, cx)])) := Lib.hid HY.out
          have d1 : (wr.drewN nq).cell? ⟨bi, oi + i * 2, none⟩ = some (.int .i64 (y : Int)) := ci1
          have d2 : (wr.drewN nq).cell? ⟨bi, oi + i * 2 + 1, none⟩ = some (.slice (some ⟨gx, 0, none⟩) n cx) := ci2
          clear hB HY HCi HCk ci1 ci2
          generalize wr.drewN nq = w4 at *
          go_wp2_with (at_builtin; refine grow elem_par rfl (.tmp 41) (.tmp 46) rfl rfl (hB4.alloc _) rfl (Rd.new' _ _ _ [Value.int .i64 (y : Int), .slice (some ⟨gx, 0, none⟩) n cx] _ (by simp) rfl) rfl (by simp [Value.oneCell']) (m + 1) rfl (pcC f n (zs ++ [(tx, gx, cx)])) HNw.out (by omega) (by omega) ?_; intro A2 c2 w7 hB7 hg7; have hK7 := (HY4.out.alloc _).grown (hB4.alloc _) hg7)
          go_roundg (ni + nm - (i + 1 + k))
          case measure => have := HG.out; omega
          case rel => exact ⟨A2, c2, i + 1, k, m + 1, _, by omega, by omega, rfl, by go_num, (by first | rfl | rw [y2]), rfl, hB7, Lib.hid ⟨hK7, HEq.out, by have := HM1.out; omega⟩⟩
        · have t3 : decide ((u : Int) ≤ (v : Int)) = false := decide_eq_false (by omega)
          have hil : k < ys.length := by have := HN.out; omega
          have HNx := Lib.hid (mrg_right (f := f) (xs := xs) (ys := ys) (i := i) (k := k) hil (fun _ => by rw [hu, hv]; omega) (by have := HN.out; omega))
          obtain ⟨x, hx⟩ : ∃ x, ys[k] = x := ⟨_, rfl⟩
          have okx : PcOk n wr [x] := fun z hz => by
            simp only [List.mem_cons, List.not_mem_nil, or_false] at hz
            subst hz
            exact ⟨Arr.below (HX.out.2 _ (by rw [← hx]; exact List.getElem_mem hil)).1 hB.1 (Blk.lt (HX.out.2 _ (by rw [← hx]; exact List.getElem_mem hil)).1), (HX.out.2 _ (by rw [← hx]; exact List.getElem_mem hil)).2⟩
          obtain ⟨bk9, ok9, ek, ck1, ck2⟩ := HCk.out wr hB.1 hil
          first | subst ek | (simp only [Option.some.injEq, Addr.mk.injEq, and_true] at ek; obtain ⟨rfl, rfl⟩ := ek)
          rw [hx] at ck1 ck2 HNx
          clear hu hv
          obtain ⟨tx, gx, cx⟩ := x
          dsimp only at ck1 ck2
          obtain ⟨y, hy⟩ : ∃ y, wtT f tx = y := ⟨_, rfl⟩
          rw [hy] at ck1
          have HNw := Lib.hid (show pcC f n zs ++ [Value.int .i64 (y : Int), .slice (some ⟨gx, 0, none⟩) n cx] = pcC f n (zs ++ [(tx, gx, cx)]) by rw [pcC_append, ← hy]; rfl)
          have HY := Lib.hid (HZ.out.1.app okx)
          have HEq := Lib.hid (show (zs ++ [(tx, gx, cx)]) ++ mrg (leC f) (xs.drop i) (ys.drop (k + 1)) = mrg (leC f) xs ys by rw [← HZ.out.2.1, HNx.out, List.append_assoc]; rfl)
          have hm1 := HZ.out.2.2
          have HM1 := Lib.hid hm1
          clear hx hy okx HNx hm1
          go_wp2_with fail
          go_quiet (fail)
          have hB4 := hB.drewN nq
          have HY4 : Hid (PcOk n (wr.drewN nq) (zs ++ [(tx, gx, cx)])) := Lib.hid HY.out
          have d1 : (wr.drewN nq).cell? ⟨bk, ok + k * 2, none⟩ = some (.int .i64 (y : Int)) := ck1
          have d2 : (wr.drewN nq).cell? ⟨bk, ok + k * 2 + 1, none⟩ = some (.slice (some ⟨gx, 0, none⟩) n cx) := ck2
          clear hB HY HCi HCk ck1 ck2
          generalize wr.drewN nq = w4 at *
          go_wp2_with (at_builtin; refine grow elem_par rfl (.tmp 50) (.tmp 55) rfl rfl (hB4.alloc _) rfl (Rd.new' _ _ _ [Value.int .i64 (y : Int), .slice (some ⟨gx, 0, none⟩) n cx] _ (by simp) rfl) rfl (by simp [Value.oneCell']) (m + 1) rfl (pcC f n (zs ++ [(tx, gx, cx)])) HNw.out (by omega) (by omega) ?_; intro A2 c2 w7 hB7 hg7; have hK7 := (HY4.out.alloc _).grown (hB4.alloc _) hg7)
          go_roundg (ni + nm - (i + (k + 1)))
          case measure => have := HG.out; omega
          case rel => exact ⟨A2, c2, i, k + 1, m + 1, _, by omega, by omega, rfl, (by first | rfl | rw [y1]), by go_num, rfl, hB7, Lib.hid ⟨hK7, HEq.out, by have := HM1.out; omega⟩⟩
end Go.Proofs.Ytolcekbldpdmpaa
