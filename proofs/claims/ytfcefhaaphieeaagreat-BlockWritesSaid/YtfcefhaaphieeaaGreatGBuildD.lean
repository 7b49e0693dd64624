/-
  Walks: build.Lengths: what a round keeps; the small cases.
-/
import Derived.Test.YtfcefhaaphieeaaGreatG05
import Derived.Test.YtfcefhaaphieeaaGreatG10
import Derived.Test.YtfcefhaaphieeaaGreatGBuildB
import Derived.Test.YtfcefhaaphieeaaGreatGBuildC
namespace Go.Proofs.YtfcefhaaphieeaaGreat
open Go.RowKit Go.Shelf
attribute [local go_sem] Oper.semAt_some

/-- All that was there lies as it lay, but for two blocks. -/
structure Kx (a b : Nat) (W W' : World) : Prop where
  os : W'.os = W.os
  tape : W'.tape = W.tape
  output : W'.output = W.output
  size : W.heap.size ≤ W'.heap.size
  block : ∀ g, g < W.heap.size → g ≠ a → g ≠ b → W'.heap[g]? = W.heap[g]?
section
variable {a b : Nat} {A B C : World}
theorem Kx.refl (W : World) : Kx a b W W := ⟨rfl, rfl, rfl, Nat.le_refl _, fun _ _ _ _ => rfl⟩
theorem Kx.trans (h : Kx a b A B) (k : Kx a b B C) : Kx a b A C :=
  ⟨k.os.trans h.os, k.tape.trans h.tape, k.output.trans h.output, Nat.le_trans h.size k.size, fun g h1 h2 h3 => (k.block g (Nat.lt_of_lt_of_le h1 h.size) h2 h3).trans (h.block g h1 h2 h3)⟩
theorem Kx.of_below (h : Below A.heap.size A B) : Kx a b A B := ⟨h.os, h.tape, h.output, h.size, fun g h1 _ _ => h.block g h1⟩
theorem Kx.of_grown {row : Option Nat} (h : A.grownBy B row) (hr : ∀ g, row = some g → A.heap.size ≤ g ∨ g = a ∨ g = b) : Kx a b A B :=
  ⟨h.os, h.tape, h.output, h.size, fun g h1 h2 h3 => h.block g h1 fun e => by have := hr g e.symm; omega⟩
theorem Kx.set (h : Kx a b A B) {g : Nat} (hg : g = a ∨ g = b) (i : Nat) (u : Value) : Kx a b A (B.setCell ⟨g, i, none⟩ u) := by
  refine h.trans (Kx.of_grown (only_set (only_refl' B g) i u) fun k hk => ?_)
  injection hk with hk; right; omega
where only_refl' (w : World) (g : Nat) : w.grownBy w (some g) := ⟨rfl, rfl, rfl, Nat.le_refl _, fun _ _ _ => rfl⟩
theorem Kx.alloc (h : Kx a b A B) (o : Obj) : Kx a b A (B.alloc o) := h.trans (Kx.of_below ((Below.refl _ _).alloc (Nat.le_refl _) _))
theorem Kx.blk (h : Kx a b A B) {g : Nat} {t : TypeId} {cs : Array Value} (hb : Blk A g t cs) (h1 : g ≠ a) (h2 : g ≠ b) : Blk B g t cs := (h.block g (Blk.lt hb) h1 h2).trans hb
theorem Kx.rd (h : Kx a b A B) {g : Nat} {xs : List Value} (hr : Rd A (some ⟨g, 0, none⟩) xs) (hg : g < A.heap.size) (h1 : g ≠ a) (h2 : g ≠ b) : Rd B (some ⟨g, 0, none⟩) xs := by
  refine ⟨fun hn => ?_, fun e => by cases e⟩
  obtain ⟨b', off, e, hc⟩ := hr.at_ hn
  simp only [Option.some.injEq, Addr.mk.injEq, and_true] at e
  obtain ⟨rfl, rfl⟩ := e
  refine ⟨g, 0, rfl, fun i u hu => ?_⟩
  rw [← hc i u hu]
  unfold World.cell?
  show (match B.heap[g]? with | _ => _) = (match A.heap[g]? with | _ => _)
  rw [h.block g hg h1 h2]
theorem Kx.from (h : Kx a b A B) {N : Nat} (h1 : a < N) (h2 : b < N) : KeepsFrom N A B := ⟨h.size, fun k o hk ho _ => (h.block k (Array.getElem?_eq_some_iff.1 ho).1 (by omega) (by omega)).trans ho⟩
theorem Kx.kp2 (h : Kx a b A B) {x y : Nat} (hx : x < A.heap.size) (hy : y < A.heap.size) (h1 : x ≠ a) (h2 : x ≠ b) (h3 : y ≠ a) (h4 : y ≠ b) : Kp2 x y A B := ⟨h.block x hx h1 h2, h.block y hy h3 h4⟩
theorem Kx.below (h : Kx a b A B) {N : Nat} (hN : N ≤ A.heap.size) (h1 : N ≤ a) (h2 : N ≤ b) : Below N A B := ⟨h.os, h.tape, h.output, h.size, fun g hg => h.block g (by omega) (by omega) (by omega)⟩
theorem own_kx {β : Type} {N : Nat} (hN : A.heap.size ≤ N) : OwnFrom N (fun (_ : β) W => Kx a b A W) := fun _ W W' row hs hg hr =>
  ⟨hg.os.trans hs.os, hg.tape.trans hs.tape, hg.output.trans hs.output, Nat.le_trans hs.size hg.size, fun g h1 h2 h3 => (hg.block g (Nat.lt_of_lt_of_le h1 hs.size) (fun e => by
    have := (hr g e.symm).1; omega)).trans (hs.block g h1 h2 h3)⟩
theorem own_arr {β : Type} {N g : Nat} {t : TypeId} {n : Nat} {F : β → Nat → Value} (hg : g < N) : OwnFrom N (fun (s : β) W => Arr W g t n (F s)) := fun s W W' row hs hg' hr => by
  refine Blk.grown hs hg' (fun e => ?_)
  have := (hr g e.symm).1; omega
end

theorem own_builds {β : Type} {N g e size n c : Nat} {W2 : World} {F : β → List Value} (hg : g < N) (hW : W2.heap.size ≤ N) : OwnFrom N (fun (s : β) W => Builds W2 W e size (some ⟨g, 0, none⟩) n c (F s)) := fun s W W' row hs hg' hr =>
  ⟨hs.1.grown hg' hs.1.size (fun k hk => Nat.le_trans hW (hr k hk).1), hs.2.kept hg' (.inr fun e' => by
    have := (hr g (by simpa [Value.ownBlock] using e'.symm)).1; omega)⟩
theorem only_refl' (w : World) (g : Nat) : w.grownBy w (some g) := ⟨rfl, rfl, rfl, Nat.le_refl _, fun _ _ _ => rfl⟩
theorem kp2_t {a b : Nat} {A B C : World} (h : Kp2 a b A B) (k : Kp2 a b B C) : Kp2 a b A C := ⟨k.1.trans h.1, k.2.trans h.2⟩
theorem kp2_b {a b N : Nat} (ha : a < N) (hb : b < N) (W : World) (l : Nat) (o o' : Obj) (hl : N ≤ l) (_ : W.heap[l]? = some o) (_ : o.isCells = false) (_ : o.isWalk = false) : Kp2 a b W (W.putObj l o') :=
  ⟨World.putObj_heap_other (by omega), World.putObj_heap_other (by omega)⟩
/-- A row that is a whole block. -/
theorem Builds.arr {W w : World} {e g n : Nat} {xs : List Value} (h : Builds W w e 1 (some ⟨g, 0, none⟩) n n xs) : Arr w g e n (fun i => xs[i]?.getD undef) := by
  rcases h.2.2 with ⟨h1, _⟩ | ⟨g', cap, cur, hv, _, hh, _, _, h4, h5⟩
  · cases h1
  · simp only [Value.slice.injEq, Option.some.injEq, Addr.mk.injEq] at hv
    obtain ⟨⟨rfl, _⟩, _, rfl⟩ := hv
    unfold Arr Blk
    rw [hh]
    congr 2
    rw [Nat.mul_one] at h4 h5
    have e1 : xs = cur.toList := by rw [← h5, List.take_of_length_le (by simp [h4])]
    apply Array.ext
    · rw [cellsOf_size]; exact h4
    · intro i h6 h7
      subst e1
      simp [cellsOf, h6]

/-- The lengths of frequencies, or what is wrong. -/
def LenRes (w w' : World) (e : Ending) (fr : List Int) (most : Int) : Prop :=
  (askE fr most ≠ 0 ∧ e = .returned (.tuple #[.slice none 0 0, .int .i64 (askE fr most : Nat)]) ∧ Below w.heap.size w w') ∨
  (askE fr most = 0 ∧ ∃ A c ys, Items fr ys ∧ ys.length = (posL fr fr.length).length ∧ e = .returned (.tuple #[.slice A fr.length c, .int .i64 0]) ∧ Builds w w' 5 1 A fr.length c (u8s (outL fr ys most.toNat)))

theorem outL_none {fr ys : List Int} {L : Nat} (h : ys.length = 0) : outL fr ys L = List.replicate fr.length 0 := by
  obtain rfl : ys = [] := List.eq_nil_of_length_eq_zero h
  unfold outL
  rw [List.eq_replicate_iff]
  refine ⟨by simp, fun x hx => ?_⟩
  obtain ⟨i, _, rfl⟩ := List.mem_map.1 hx
  rfl
theorem outL_one {fr ys : List Int} {L : Nat} (h : ys.length = 1) : outL fr ys L = (List.replicate fr.length 0).set (itF ys 0) 1 := by
  unfold outL
  apply List.ext_getElem
  · simp
  · intro i h1 h2
    simp only [List.length_map, List.length_range] at h1
    rw [List.getElem_map, List.getElem_range, List.getElem_set]
    unfold outF blF
    rw [h, sumN, sumN, if_pos rfl]
    by_cases e : itF ys 0 = i
    · rw [if_pos e, if_pos e]
    · rw [if_neg e, if_neg e]; simp

theorem elem_rows : Elem Tryz.prog 126 127 1 24 := Elem.mk' Tryz.underlying126 (z := .slice none 0 0) (by kernel_rfl) rfl (by omega)
theorem made_nils (n : Nat) : (madeCells (Value.slice none 0 0).cells (n * 1)).toList = List.replicate n (.slice none 0 0) := by rw [Nat.mul_one, made_zeros _ rfl, zeros_list]
/-- The first k rows are made. -/
def RowsOk (f : Nat → Nat) (n RB : Nat) (wr : World) (k : Nat) (vs : List Value) : Prop :=
  (∀ t, t < k → ∃ g c, vs[t]? = some (.slice (some ⟨g, 0, none⟩) (rowTr f n t).length c) ∧ (rowTr f n t).length ≤ c ∧ RB < g ∧ g < wr.heap.size ∧ Rd wr (some ⟨g, 0, none⟩) (pcl ((rowTr f n t).map (gP f)))) ∧
  (∀ t, k ≤ t → t < vs.length → vs[t]? = some (.slice none 0 0))
theorem rowP_len (f : Nat → Nat) (n t : Nat) : ((rowTr f n t).map (gP f)).length = (rowTr f n t).length := by rw [List.length_map]
theorem row_pos {n : Nat} (f : Nat → Nat) (h : 1 ≤ n) : ∀ t, 1 ≤ (rowTr f n t).length
  | 0 => by rw [rowTr, itemsT_length]; exact h
  | t + 1 => by rw [rowT_succ_length]; omega
/-- The next row is made. -/
theorem RowsOk.step {f : Nat → Nat} {n RB k g c : Nat} {wr w' : World} {vs : List Value} (h : RowsOk f n RB wr k vs) (hk : k < vs.length) (hs : wr.heap.size ≤ w'.heap.size) (hb : ∀ g xs, RB < g → g < wr.heap.size → Rd wr (some ⟨g, 0, none⟩) xs → Rd w' (some ⟨g, 0, none⟩) xs)
    (h1 : (rowTr f n k).length ≤ c) (h2 : RB < g) (h3 : g < w'.heap.size) (h4 : Rd w' (some ⟨g, 0, none⟩) (pcl ((rowTr f n k).map (gP f)))) : RowsOk f n RB w' (k + 1) (vs.set k (.slice (some ⟨g, 0, none⟩) (rowTr f n k).length c)) := by
  refine ⟨fun t ht => ?_, fun t h5 h6 => ?_⟩
  · rw [List.getElem?_set]
    by_cases e : k = t
    · subst e
      rw [if_pos rfl, if_pos hk]
      exact ⟨g, c, rfl, h1, h2, h3, h4⟩
    · rw [if_neg e]
      obtain ⟨g', c', x1, x2, x3, x4, x5⟩ := h.1 t (by omega)
      exact ⟨g', c', x1, x2, x3, by omega, hb g' _ x3 x4 x5⟩
  · rw [List.length_set] at h6
    rw [List.getElem?_set, if_neg (by omega)]
    exact h.2 t (by omega) h6
/-- What a row's making tells. -/
def RowRes (f : Nat → Nat) (ni t : Nat) (w w' : World) (e : Ending) : Prop := ∃ g c, e = .returned (.slice (some ⟨g, 0, none⟩) (rowTr f ni t).length c) ∧ Builds w w' 133 2 (some ⟨g, 0, none⟩) (rowTr f ni t).length c (pcl ((rowTr f ni t).map (gP f)))
theorem nth_range (f : Nat → Nat) (ni M : Nat) (hf : ∀ k, k < ni → f k ≤ M) : ∀ i, nth ((List.range ni).map f) i ≤ M := fun i => by
  by_cases h : i < ni
  · have := hf i h; simp [nth, h]; exact this
  · simp [nth, h]
theorem rowM_of (f : Nat → Nat) (ni t : Nat) (ht : t ≤ 14) (hf : ∀ k, k < ni → f k ≤ 1073741824) : RowM 17592186044416 ((rowTr f ni t).map (gP f)) := fun i => by
  by_cases h : i < ((rowTr f ni t).map (gP f)).length
  · have h1 := rowP_le f ni 1073741824 hf t _ (mem_nthP h)
    have h2 : 1073741824 * 2 ^ t ≤ 1073741824 * 2 ^ 14 := Nat.mul_le_mul_left _ (Nat.pow_le_pow_right (by omega) ht)
    have h3 : 1073741824 * 2 ^ 14 = 17592186044416 := by decide
    omega
  · have : nthP ((rowTr f ni t).map (gP f)) i = (0, false) := by simp only [nthP]; rw [List.getElem?_eq_none (by omega)]; rfl
    rw [this]; exact Nat.zero_le _
theorem row_any (f : Nat → Nat) (ni t : Nat) (R : Option Addr) (nr cR : Nat) (row : List (Nat × Bool)) (S : Option Addr) (cS : Nat) (w : World) (he : behL row ((List.range ni).map f) = (rowTr f ni t).map (gP f)) (hR : Rd w R (pcl row)) (hnr : nr = row.length) (hr : nr ≤ 1000) (hrm : RowM 17592186044416 row)
    (hS : Rd w S (ints (natsI ((List.range ni).map f)))) (hc : ni ≤ cS) (h1 : 1 ≤ ni) (h2 : ni ≤ 320) (hf : ∀ k, k < ni → f k ≤ 1073741824) :
    Calls Tryz.prog 68 #[.slice R nr cR, .slice S ni cS] w fun e w' => RowRes f ni t w w' e := by
  refine (behind_is R nr cR row S ni cS ((List.range ni).map f) 17592186044416 w hR hS hnr (by simp) hc (by omega) (by omega) (by omega) hrm (nth_range f ni _ (fun k hk => by have := hf k hk; omega))).mono ?_
  rintro e w' ⟨A, c, rfl, hB⟩
  rw [he, rowP_len] at hB ⊢
  obtain ⟨g, rfl, _, _⟩ := hB.at_ (by have := row_pos f h1 t; omega)
  exact ⟨g, c, rfl, hB⟩
theorem made_bytes (n : Nat) : (madeCells (Value.int .u8 0).cells (n * 1)).toList = u8s (List.replicate n 0) := by rw [Nat.mul_one, made_zeros _ rfl, zeros_list, u8s_zeros]

set_option maxRecDepth 100000 in
set_option maxHeartbeats 4000000 in
theorem lengths_is (F : Option Addr) (nf cF : Nat) (fr : List Int) (most : Int) (w : World) (hF : Rd w F (ints fr)) (hn : nf = fr.length) (hs : nf ≤ 1000000) (h1 : -9223372036854775808 ≤ most) (h2 : most ≤ 9223372036854775807) :
    Calls Tryz.prog 43 #[.slice F nf cF, .int .i64 most] w fun e w' => LenRes w w' e fr most := by
  have HA := Lib.hid (fun wx (h : Rd wx F (ints fr)) => asked_is F nf cF fr most wx h hn hs h1 h2)
  have HN := Lib.hid hn
  clear hn
  refine (callsIn_wide (n := 9)).1 ?_
  refine callsIn_of_wp_marks Tryz.func43 rfl trivial ?_ rfl
  simp only [Tryz.ntmps43, List.size_toArray, List.length_cons, List.length_nil, Nat.reduceAdd, Nat.reduceSub, Array.replicate_succ, Array.replicate_zero, List.push_toArray, List.append_toArray, List.nil_append, List.cons_append]
  refine wpIn_wide.2 ?_
  go_wp2_with fail
  refine (HA.out _ hF).mono ?_
  rintro e w1 hres
  unfold AskRes at hres
  rcases hres with ⟨hE, rfl, hb⟩ | ⟨hE, AI, cI, ys, rfl, hB, hI, hyl⟩
  · have hne : (((askE fr most : Nat) : Int) != 0) = true := by rw [bne_iff_ne]; omega
    have HE := Lib.hid hE
    have HL := Lib.hid (show ∀ w' e, e = Ending.returned (.tuple #[.slice none 0 0, .int .i64 (askE fr most : Nat)]) → Below w.heap.size w w' → LenRes w w' e fr most from fun w' e he hb => .inl ⟨HE.out, he, hb⟩)
    clear hE HE
    generalize askE fr most = E at *
    go_wp2_with fail
    refine ⟨.tuple #[.slice none 0 0, .int .i64 (E : Int)], ?_, ?_⟩
    · simp [results, Tryz.results43, go_sem]
    · exact HL.out _ _ rfl (hb.alloc hb.size _)
  · obtain ⟨a1, a2, a3, a4, a5⟩ := askE_ok hE
    obtain ⟨L, rfl⟩ : ∃ L : Nat, most = (L : Int) := ⟨most.toNat, by omega⟩
    rw [Int.toNat_natCast, ← hyl] at a5
    obtain ⟨ni, hni⟩ : ∃ ni, ys.length = ni := ⟨_, rfl⟩
    rw [hni] at hB a5
    have hLL : 1 ≤ L ∧ L ≤ 15 := by omega
    have hnf : nf ≤ 320 := by have := HN.out; omega
    have hnif : ni ≤ nf := by have := HN.out; have := posL_len fr fr.length; omega
    have HI := Lib.hid (And.intro hI (And.intro hyl (And.intro hni (And.intro hE (And.intro a4 a5)))))
    rw [hni]
    clear hI hyl hni hE a4 a5 a1 a2 a3 HA h1 h2
    go_upto_region 4 with (fail)
    have hb2 : Below w.heap.size w (w1.alloc (.cells #[.slice AI ni cI] 89)) := hB.1.alloc hB.1.size _
    have k6 : Blk (w1.alloc (.cells #[.slice AI ni cI] 89)) w1.heap.size 89 #[.slice AI ni cI] := Blk.new _ _ _
    have hB2 := hB.alloc (.cells #[.slice AI ni cI] 89)
    have hW2 : (w1.alloc (.cells #[.slice AI ni cI] 89)).heap.size = w1.heap.size + 1 := by simp
    have hg1 := fun h => hB.at_ (n := ni) h
    have HW2 := Lib.hid hW2
    clear hW2 hB
    generalize w1.alloc (.cells #[.slice AI ni cI] 89) = W2 at *
    generalize w1.heap.size = X6 at *
    go_upto_region 5 with (at_make; refine makes elem_u8 (z := .int .u8 0) (by kernel_rfl) rfl _ _ rfl nf rfl rfl rfl (by omega) (by omega) (u8s (List.replicate nf 0)) (made_bytes nf) ?_; intro w3 hO)
    have hb3 := hb2.trans (hO.1.mono hb2.size)
    have k63 := Blk.below k6 hO.1 (Blk.lt k6)
    have k8 : Blk (w3.alloc (.cells #[.slice (some ⟨W2.heap.size, 0, none⟩) nf nf] 22)) w3.heap.size 22 #[.slice (some ⟨W2.heap.size, 0, none⟩) nf nf] := Blk.new _ _ _
    have hO3 := hO.alloc (.cells #[.slice (some ⟨W2.heap.size, 0, none⟩) nf nf] 22)
    have k6 := Blk.alloc k63 (.cells #[.slice (some ⟨W2.heap.size, 0, none⟩) nf nf] 22)
    have hb3' := hb3.alloc hb3.size (.cells #[.slice (some ⟨W2.heap.size, 0, none⟩) nf nf] 22)
    have hX8 : W2.heap.size < w3.heap.size := (hO.2.lt _ rfl).2
    change Code.wp _ _ _ _ (w3.alloc (.cells #[.slice (some ⟨W2.heap.size, 0, none⟩) nf nf] 22))
    clear k63 hb3 hO
    generalize w3.alloc (.cells #[.slice (some ⟨W2.heap.size, 0, none⟩) nf nf] 22) = W3 at *
    generalize w3.heap.size = X8 at *
    obtain ⟨GO, hGO⟩ : ∃ GO, W2.heap.size = GO := ⟨_, rfl⟩
    rw [hGO] at k8 hO3 hX8 ⊢
    have c6 := Blk.cells k6
    have c8 := Blk.cells k8
    have hBI := hB2.below (hO3.1)
    have HGO := Lib.hid hGO
    clear hGO
    by_cases hn0 : ni = 0
    · subst hn0
      have e1 : (((0 : Nat) : Int) == 1) = false := rfl
      go_wp2_with fail
      refine ⟨.tuple #[.slice (some ⟨GO, 0, none⟩) nf nf, .int .i64 0], ?_, ?_⟩
      · simp [results, Tryz.results43, go_sem]
      · obtain ⟨hI, hyl, hni, hE, -, -⟩ := HI.out
        refine .inr ⟨hE, _, _, ys, hI, hyl, by rw [← HN.out], ?_⟩
        rw [outL_none hni, ← HN.out]
        exact hO3.rebase hb2
    · by_cases hn1 : ni = 1
      · subst hn1
        obtain ⟨g1, rfl, hg2, hg3⟩ := hg1 (by omega)
        obtain ⟨hI, hyl, hni, hE, a4, a5⟩ := HI.out
        have hy0 := hI.rng (nthI ys 0) (by rw [nthI_el (by omega)]; exact List.getElem_mem _)
        have ci := Builds.cell hBI 0 (by omega)
        rw [ints_get ys 0 (by omega)] at ci
        obtain ⟨i0, hi0⟩ : ∃ i0 : Nat, nthI ys 0 = (i0 : Int) := ⟨(nthI ys 0).toNat, by omega⟩
        rw [hi0] at ci hy0
        have hi0n : i0 < nf := by have := HN.out; omega
        have co := Builds.cell hO3 i0 (by omega)
        rw [u8s_get _ _ (by simpa using hi0n)] at co
        have fo := Builds.free hO3 i0
        have hI0 := Lib.hid hi0
        clear hi0 hy0 hI hyl hni hE a4 a5
        go_wp2_with fail
        go_region
        have hO4 := (Builds.set hO3 i0 (by omega) (.int .u8 1)).drew
        have c84 : (W3.setCell ⟨GO, i0, none⟩ (.int .u8 1)).drew.cell? ⟨X8, 0, none⟩ = some (.slice (some ⟨GO, 0, none⟩) nf nf) := Blk.cell (Blk.far k8 (p := ⟨GO, i0, none⟩) (by show X8 ≠ GO; omega) (.int .u8 1)) 0
        have c64 : (W3.setCell ⟨GO, i0, none⟩ (.int .u8 1)).drew.cell? ⟨X6, 0, none⟩ = some (.slice (some ⟨g1, 0, none⟩) 1 cI) := Blk.cell (Blk.far k6 (p := ⟨GO, i0, none⟩) (by show X6 ≠ GO; have := HW2.out; have := HGO.out; omega) (.int .u8 1)) 0
        clear c6 c8 co fo ci
        generalize (W3.setCell ⟨GO, i0, none⟩ (.int .u8 1)).drew = W4 at *
        go_wp2_with fail
        refine ⟨.tuple #[.slice (some ⟨GO, 0, none⟩) nf nf, .int .i64 0], ?_, ?_⟩
        · simp [results, Tryz.results43, go_sem]
        · obtain ⟨hI, hyl, hni, hE, -, -⟩ := HI.out
          refine .inr ⟨hE, _, _, ys, hI, hyl, by rw [← HN.out], ?_⟩
          rw [outL_one hni, ← HN.out, show itF ys 0 = i0 by unfold itF; rw [hI0.out]; rfl]
          have := hO4.rebase hb2
          rw [show (u8s (List.replicate nf 0)).set i0 (.int .u8 1) = u8s ((List.replicate nf 0).set i0 1) by simp [u8s, List.map_set]] at this
          exact this
      · have hn2 : 2 ≤ ni := by omega
        have hcI : ni ≤ cI := hB2.cap
        have e1 : ((ni : Int) == 1) = false := by rw [beq_eq_false_iff_ne]; omega
        have e2 : decide ((ni : Int) < 2) = false := decide_eq_false (by omega)
        have e3 : ¬ (ni : Int) < 2 := by omega
        obtain ⟨g1, rfl, hg2, hg3⟩ := hg1 (by omega)
        obtain ⟨f, hf⟩ : ∃ f, wtF fr ys = f := ⟨_, rfl⟩
        have HIt := Lib.hid (fun (k : Nat) (hk : k < ni) => show ∃ i : Nat, nthI ys k = (i : Int) ∧ i < nf ∧ itF ys k = i ∧ nthI fr i = (f k : Int) ∧ f k ≤ 1073741824 from by
          obtain ⟨hI, hyl, hni, hE, a4, a5⟩ := HI.out
          obtain ⟨y1, y2, y3⟩ := hI.rng (nthI ys k) (by rw [nthI_el (by omega)]; exact List.getElem_mem _)
          have e : itF ys k = (nthI ys k).toNat := rfl
          have a4' := a4 (itF ys k) (by omega)
          have e5 : f k = (nthI fr (itF ys k)).toNat := by rw [← hf]; rfl
          exact ⟨itF ys k, by omega, by have := HN.out; omega, rfl, by rw [← e] at y3; omega, by omega⟩)
        have HF := Lib.hid hf
        clear hf
        go_wp2_with fail
        go_loopg [9, 48] ni (fun gk v9 v48 wr => ∃ (A9 : Option Addr) (c9 k : Nat), k ≤ ni ∧ gk = ni - k ∧ v9 = .slice A9 k c9 ∧ v48 = .int .i64 (k : Int) ∧ Builds W3 wr 3 1 A9 k c9 (ints (natsI ((List.range k).map f))))
        case atStart => exact ⟨none, 0, 0, by omega, rfl, rfl, rfl, Builds.nil_ _ _ _⟩
        case round =>
          obtain ⟨A9, c9, k, hk, hgk, rfl, rfl, hB9⟩ := hrel
          have HG := Lib.hid hgk
          clear hgk
          by_cases hlt : k < ni
          · have hlt' : (k : Int) < (ni : Int) := by omega
            obtain ⟨it, hi1, hi2, hi3, hi4, hi5⟩ := HIt.out k hlt
            have ci := Builds.cell (hBI.below hB9.1) k (by omega)
            rw [ints_get ys k (by have := HI.out.2.2.1; omega), hi1] at ci
            obtain ⟨b, off, rfl, hcell⟩ := ((hF.below hb3').below hB9.1).at_ (by rw [ints_length]; have := HN.out; omega)
            have cf := hcell it _ (ints_get fr it (by have := HN.out; omega))
            rw [hi4] at cf
            obtain ⟨y, hy⟩ : ∃ y, f k = y := ⟨_, rfl⟩
            rw [hy] at cf hi5
            have HY := Lib.hid (show ints (natsI ((List.range k).map f)) ++ ints [(y : Int)] = ints (natsI ((List.range (k + 1)).map f)) by rw [List.range_succ, List.map_append, ← hy]; simp [natsI, ints])
            have c64 := Blk.cell (Blk.below k6 hB9.1 (Blk.lt k6)) 0
            clear hcell hy hi1 hi3 hi4
            go_wp2_with (at_builtin; refine grow elem_num rfl (.tmp 52) (.tmp 57) rfl rfl (hB9.alloc _) rfl (Rd.new' _ _ _ (ints [(y : Int)]) _ (by simp) rfl) rfl (ints_one _) (k + 1) rfl (ints (natsI ((List.range (k + 1)).map f))) HY.out (by omega) (by omega) ?_; intro A2 c2 w2 hB2' hg2')
            go_roundg (ni - (k + 1))
            case measure => have := HG.out; omega
            case rel => exact ⟨A2, c2, k + 1, by omega, rfl, rfl, by go_num, hB2'⟩
          · obtain rfl : ni = k := by omega
            have hlt' : ¬ (ni : Int) < (ni : Int) := by omega
            clear hlt hk HG
            go_upto_region 16 with (at_make; refine makes elem_rows (z := .slice none 0 0) (by kernel_rfl) rfl _ _ rfl L rfl rfl rfl (by omega) (by omega) (List.replicate L (.slice none 0 0)) (made_nils L) ?_; intro w5 hR5)
            have hB95 := hB9.below hR5.1
            have hSn := hB95.rd
            have hcap9 := hB9.cap
            have hWM := hR5.size_le
            have hw3m := hB9.1.size
            obtain ⟨RB, hRB⟩ : ∃ RB, wr.heap.size = RB := ⟨_, rfl⟩
            rw [hRB] at hR5 ⊢
            have HRB := Lib.hid hRB
            have hRok : RowsOk f ni RB w5 0 (List.replicate L (.slice none 0 0)) := ⟨fun t ht => by omega, fun t h1 h2 => by rw [List.length_replicate] at h2; simp [h2]⟩
            have HB0 := Lib.hid (And.intro hR5 (And.intro hRok (show (List.replicate L (Value.slice none 0 0)).length = L by simp)))
            clear hRok
            generalize wr = WA at *
            have hfl := Lib.hid (fun k (hk : k < ni) => show f k ≤ 1073741824 from by obtain ⟨_, _, _, _, _, h⟩ := HIt.out k hk; exact h)
            go_wp2_with fail
            go_loopg [64] L (fun gk v64 wr => ∃ (k : Nat) (vs : List Value), k ≤ L ∧ gk = L - k ∧ v64 = .int .i64 (k : Int) ∧ Builds WA wr 127 1 (some ⟨RB, 0, none⟩) L L vs ∧ Hid (RowsOk f ni RB wr k vs ∧ vs.length = L))
            case atStart => exact ⟨0, List.replicate L (.slice none 0 0), by omega, rfl, rfl, hR5, Lib.hid HB0.out.2⟩
            case round =>
              clear hR5 HB0 hB95 hSn
              obtain ⟨k, vs, hk, hgk, rfl, hR2, HV⟩ := hrel
              have HG := Lib.hid hgk
              clear hgk
              by_cases hlt : k < L
              · have hlt' : (k : Int) < (L : Int) := by omega
                have hB92 := hB9.below hR2.1
                have hstep := Lib.hid (fun (w6 : World) (g c : Nat) (hB : Builds wr w6 133 2 (some ⟨g, 0, none⟩) (rowTr f ni k).length c (pcl ((rowTr f ni k).map (gP f)))) =>
                  show RowsOk f ni RB (w6.setCell ⟨RB, k, none⟩ (.slice (some ⟨g, 0, none⟩) (rowTr f ni k).length c)) (k + 1) (vs.set k (.slice (some ⟨g, 0, none⟩) (rowTr f ni k).length c)) from by
                    obtain ⟨_, hg, hge, hlt2⟩ := hB.at_ (by have := row_pos f (n := ni) (by omega) k; omega)
                    simp only [Option.some.injEq, Addr.mk.injEq, and_true] at hg
                    subst hg
                    have hRBlt : RB < wr.heap.size := (hR2.2.lt _ rfl).2
                    have hK : Kx RB RB w6 (w6.setCell ⟨RB, k, none⟩ (.slice (some ⟨g, 0, none⟩) (rowTr f ni k).length c)) := (Kx.refl _).set (.inl rfl) k _
                    refine HV.out.1.step (by rw [HV.out.2]; exact hlt) (Nat.le_trans hB.1.size hK.size) (fun g' xs h1 h2 h3 => hK.rd (h3.below hB.1) (Nat.lt_of_lt_of_le h2 hB.1.size) (by omega) (by omega)) hB.cap (by omega) (Nat.lt_of_lt_of_le hlt2 hK.size) (hK.rd hB.rd hlt2 (by omega) (by omega)))
                have hset := Lib.hid (fun (w6 : World) (hb : Below wr.heap.size wr w6) (v : Value) => show Builds WA (w6.setCell ⟨RB, k, none⟩ v) 127 1 (some ⟨RB, 0, none⟩) L L (vs.set k v) from Builds.set (hR2.below hb) k (by omega) v)
                have hcellk := Lib.hid (fun (w6 : World) (hb : Below wr.heap.size wr w6) => show w6.cell? ⟨RB, k, none⟩ = some (.slice none 0 0) ∧ w6.frozen? ⟨RB, k, none⟩ = false from ⟨by rw [Builds.cell (hR2.below hb) k (by omega)]; exact HV.out.1.2 k (Nat.le_refl _) (by rw [HV.out.2]; exact hlt), Builds.free (hR2.below hb) k⟩)
                by_cases hk0 : k = 0
                · subst hk0
                  have HBh := Lib.hid (row_any f ni 0 none 0 0 [] A9 c9 wr (row_beh0 f ni).symm Rd.nil_ rfl (by omega) (fun i => Nat.zero_le _) hB92.rd hcap9 (by omega) (by omega) hfl.out)
                  go_wp2_with (go_at_call 68; refine (HBh.out).mono ?_; rintro _ w6 ⟨g, c, rfl, hB6⟩; obtain ⟨ck, fk⟩ := hcellk.out w6 hB6.1)
                  go_roundg (L - 1)
                  case measure => have := HG.out; omega
                  case rel => exact ⟨1, _, by omega, rfl, by go_num, hset.out _ hB6.1 _, Lib.hid ⟨hstep.out _ _ _ hB6, by rw [List.length_set]; exact HV.out.2⟩⟩
                · obtain ⟨t, ht⟩ : ∃ t, k = t + 1 := ⟨k - 1, by omega⟩
                  have et : (k : Int) - 1 = (t : Int) := by omega
                  have hk1 : decide ((k : Int) > 0) = true := decide_eq_true (by omega)
                  have hk2 : (0 : Int) < (k : Int) := by omega
                  have htL : t < L := by omega
                  obtain ⟨g, c, x1, x2, x3, x4, x5⟩ := HV.out.1.1 t (by omega)
                  have ct := (Builds.cell hR2 t (by omega)).trans x1
                  have hrl := row_le f ni t
                  have HBh := Lib.hid (row_any f ni k (some ⟨g, 0, none⟩) (rowTr f ni t).length c ((rowTr f ni t).map (gP f)) A9 c9 wr (by rw [ht]; exact (row_beh f ni t).symm) x5 (rowP_len f ni t).symm (by omega) (rowM_of f ni t (by omega) hfl.out) hB92.rd hcap9 (by omega) (by omega) hfl.out)
                  have HT := Lib.hid ht
                  clear ht x1 x2 x3 x4 x5 hrl
                  go_wp2_with (go_at_call 68; refine (HBh.out).mono ?_; rintro _ w6 ⟨g6, c6', rfl, hB6⟩; obtain ⟨ck, fk⟩ := hcellk.out w6 hB6.1)
                  go_roundg (L - (k + 1))
                  case measure => have := HG.out; omega
                  case rel => exact ⟨k + 1, _, by omega, rfl, by go_num, hset.out _ hB6.1 _, Lib.hid ⟨hstep.out _ _ _ hB6, by rw [List.length_set]; exact HV.out.2⟩⟩
              · obtain rfl : L = k := by omega
                have hlt' : ¬ (L : Int) < (L : Int) := by omega
                clear hlt hk HG
                have k6w := Blk.below (Blk.below k6 hB9.1 (Blk.lt k6)) hR2.1 (Nat.lt_of_lt_of_le (Blk.lt k6) hB9.1.size)
                have k8w := Blk.below (Blk.below k8 hB9.1 (Blk.lt k8)) hR2.1 (Nat.lt_of_lt_of_le (Blk.lt k8) hB9.1.size)
                have c6w := Blk.cells k6w
                obtain ⟨d2, hd2⟩ : ∃ d2, 2 * ni = d2 := ⟨_, rfl⟩
                obtain ⟨m0, hm0⟩ : ∃ m0, d2 - 2 = m0 := ⟨_, rfl⟩
                have ed2 : (2 : Int) * (ni : Int) = (d2 : Int) := by omega
                have em0 : (d2 : Int) - 2 = (m0 : Int) := by omega
                have hm0n : m0 ≤ 1000 := by omega
                have hd2n : d2 ≤ 1000 := by omega
                have HM0 := Lib.hid (show m0 = 2 * ni - 2 by omega)
                clear hd2 hm0
                have HBw := Lib.hid (fun (wx : World) => backward_is (.slice (some ⟨RB, 0, none⟩) L L) wx ⟨_, _, _, rfl⟩)
                go_wp2_with (go_at_call 69; refine (HBw.out _).mono ?_; rintro _ W7 ⟨rfl, hW7⟩; have HW7 := Lib.hid hW7; clear hW7)
                have hW7 := HW7.out
                clear HW7
                obtain ⟨X14, hX14⟩ : ∃ X14, wr.heap.size = X14 := ⟨_, rfl⟩
                rw [hX14]
                have k14 : Blk W7 X14 3 #[.int .i64 (m0 : Int)] := by rw [hW7, ← hX14]; exact Blk.alloc (Blk.new _ _ _) _
                have kBn : Blk W7 (X14 + 1) 126 #[.slice (some ⟨RB, 0, none⟩) L L] := by rw [hW7, ← hX14]; exact Blk.new' _ _ _ _ (by simp)
                have hsz7 : W7.heap.size = X14 + 2 := by rw [hW7, ← hX14]; simp
                have hb7 : Below wr.heap.size wr W7 := by rw [hW7]; exact ((Below.refl _ _).alloc (Nat.le_refl _) _).alloc (by simp) _
                clear hW7
                have hRlt : RB < X14 := by rw [← hX14]; exact (hR2.2.lt _ rfl).2
                have hRA := (hR2.below hb7).arr
                have hOlt : GO < X6 + 2 ∧ X6 < GO ∧ X8 < RB := by have h1 := HW2.out; have h2 := HGO.out; have h3 := Blk.lt k8; have := HRB.out; omega
                have hb3w : Below W3.heap.size W3 W7 := hB9.1.trans ((hR2.1.trans (hb7.mono hR2.1.size)).mono hB9.1.size)
                have k67 := Blk.below k6 hb3w (Blk.lt k6)
                have k87 := Blk.below k8 hb3w (Blk.lt k8)
                have hO7 := hO3.below hb3w
                have hI7 := (hBI.below hb3w).rd
                have HRows := Lib.hid (fun t (ht : t < L) => show ∃ g c, (vs[t]?.getD undef) = .slice (some ⟨g, 0, none⟩) (rowTr f ni t).length c ∧ (rowTr f ni t).length ≤ c ∧ RB < g ∧ g < X14 ∧ Rd W7 (some ⟨g, 0, none⟩) (pcl ((rowTr f ni t).map (gP f))) from by
                  obtain ⟨g, c, x1, x2, x3, x4, x5⟩ := HV.out.1.1 t ht
                  exact ⟨g, c, by rw [x1]; rfl, x2, x3, by rw [← hX14]; exact x4, x5.below hb7⟩)
                have hwW := hb2.size
                have hbw7 := hb3'.trans (hb3w.mono hb3'.size)
                clear HV hR2 hB9 k6w k8w c6w k6 k8 hO3 hBI hb3' hb3w hb7 hX14 c6 c8 hF hcap9 hWM hw3m hRB hB2 hlt'
                refine' wpIn_wide.1 (wpIn_rows (F := Fence.wide) (n := 9) (w0 := W7) (Nx := NxB L) (S := fun xs => xs = bwN L L) (Kp := Kp2 (X14 + 1) RB) (encs := fun x : Nat => #[.int .i64 (x : Int), vs[x]?.getD undef]) rfl (by omega)
                  (gf := 91) (lb := #[.pointer (some ⟨X14 + 1, 0, none⟩)]) ?geval trivial (enters_of Tryz.func91 (by kernel_rfl) rfl)
                  (bw_rounds 8 (by omega) (X14 + 1) RB L L (fun i => vs[i]?.getD undef) W7 hLL.2 kBn hRA) kp2_t (kp2_b (by omega) (by omega)) (Below.refl _ _) (fun _ => rfl)
                  (fun pre W => Arr W X14 3 1 (fun _ => .int .i64 (mJ f ni L pre.length : Nat)) ∧ Builds W2 W 5 1 (some ⟨GO, 0, none⟩) nf nf (u8s ((List.range nf).map (outE ys (dJ f ni L pre.length)))) ∧ Kx X14 GO W7 W)
                  (OwnFrom.and (own_arr (by omega)) (OwnFrom.and (own_builds (by omega) (by have := HW2.out; omega)) (own_kx (Nat.le_refl _))))
                  ?init _ ?assign ?body ?done)
                case assign =>
                  intro l x W K hK
                  gi_wp2
                  exact hK
                case geval => rfl
                case init =>
                  refine ⟨?_, ?_, Kx.refl _⟩
                  · rw [show mJ f ni L ([] : List Nat).length = m0 from HM0.out.symm]
                    exact k14
                  · rw [show (List.range nf).map (outE ys (dJ f ni L ([] : List Nat).length)) = List.replicate nf 0 from by
                      rw [List.eq_replicate_iff]
                      refine ⟨by simp, fun x hx => ?_⟩
                      obtain ⟨i, _, rfl⟩ := List.mem_map.1 hx
                      exact outE_zero ys i]
                    exact hO7
                case body =>
                  rintro loop pre x W ⟨h14, hO, hK⟩ ⟨-, hp2, hp3⟩
                  obtain ⟨j, hj⟩ : ∃ j, pre.length = j := ⟨_, rfl⟩
                  rw [hj] at h14 hO hp2 hp3
                  have hmj := mJ_ok (f := f) hLL.1 HI.out.2.2.2.2.2 j hp2
                  obtain ⟨haj1, haj2⟩ := aJ_le (f := f) hLL.1 HI.out.2.2.2.2.2 j hp2
                  have hxL : x < L := by omega
                  rw [← hp3] at hmj haj1
                  obtain ⟨m, hm⟩ : ∃ m, mJ f ni L j = m := ⟨_, rfl⟩
                  obtain ⟨a, ha⟩ : ∃ a, aJ f ni L j = a := ⟨_, rfl⟩
                  obtain ⟨P, hP⟩ : ∃ P, prT f ni x m = P := ⟨_, rfl⟩
                  rw [hm] at h14 hmj haj1
                  rw [ha] at haj2
                  rw [hP] at haj1
                  have haP : m - P = a := by rw [← ha, aJ, ← hp3, hm, hP]
                  obtain ⟨g, c, hV, hc, hgR, hgX, hrow⟩ := HRows.out x hxL
                  have hrl := row_le f ni x
                  obtain ⟨rl, hrln⟩ : ∃ rl, (rowTr f ni x).length = rl := ⟨_, rfl⟩
                  rw [hrln] at hV hmj hc hrl
                  have hm640 : m ≤ 640 := by omega
                  have HJ := Lib.hid (And.intro hj (And.intro hm (And.intro ha (And.intro hP (And.intro haP hp3)))))
                  have hKrow := hK.rd hrow (by omega) (by omega) (by omega)
                  have hKitems := hK.rd hI7 (by omega) (by omega) (by omega)
                  have hk6 := hK.blk k67 (by omega) (by omega)
                  have hk8 := hK.blk k87 (by omega) (by omega)
                  have c14 := Arr.cell h14 0 (by omega)
                  have c6 := Blk.cells hk6
                  have em : (m : Int) - (P : Int) = (a : Int) := by omega
                  have hmc : m ≤ c := by omega
                  have hacI : a ≤ cI := by omega
                  (try dsimp only)
                  rw [hV]
                  gi_wp2
                  obtain ⟨row, hrowe⟩ : ∃ row, (rowTr f ni x).map (gP f) = row := ⟨_, rfl⟩
                  have hrowl : row.length = rl := by rw [← hrowe, rowP_len, hrln]
                  have HPr := Lib.hid (show prP row m = P from by rw [← hrowe, prP_row]; exact HJ.out.2.2.2.1)
                  rw [hrowe] at hKrow
                  gi_loopw [17, 97] (fun v17 v97 wr => ∃ q : Nat, q ≤ m ∧ v97 = .int .i64 (q : Int) ∧ v17 = .int .i64 ((prP row q : Nat) : Int) ∧ Below W.heap.size W wr)
                    (fun _ v97 _ => m - (intOf v97).toNat)
                  case atStart => exact ⟨0, by omega, rfl, by simp [prP], Below.refl _ _⟩
                  case round =>
                    obtain ⟨q, hq, rfl, rfl, hbW⟩ := hrel
                    by_cases hlt : q < m
                    · have hlt' : (q : Int) < (m : Int) := by omega
                      have hqr : q < row.length := by omega
                      obtain ⟨b', off', he', hcell⟩ := (hKrow.below hbW).at_ (by rw [pcl_length]; omega)
                      simp only [Option.some.injEq, Addr.mk.injEq, and_true] at he'
                      obtain ⟨rfl, rfl⟩ := he'
                      have c1 := hcell _ _ (pcl_get row q hqr).1
                      have c2 := hcell _ _ (pcl_get row q hqr).2
                      have hsucc := prP_succ hqr
                      obtain ⟨y, z, hyz⟩ : ∃ y z, nthP row q = (y, z) := ⟨_, _, rfl⟩
                      rw [hyz] at c1 c2 hsucc
                      rw [Nat.zero_add, show 2 * q = q * 2 by omega] at c1
                      rw [Nat.zero_add, show 2 * q + 1 = q * 2 + 1 by omega] at c2
                      dsimp only at c1 c2 hsucc
                      obtain ⟨pq, hpq⟩ : ∃ pq, prP row q = pq := ⟨_, rfl⟩
                      obtain ⟨pq1, hpq1⟩ : ∃ pq1, prP row (q + 1) = pq1 := ⟨_, rfl⟩
                      rw [hpq, hpq1] at hsucc
                      have hpqm : pq ≤ 640 := by rw [← hpq]; unfold prP; exact Nat.le_trans (List.length_filter_le _ _) (by rw [List.length_take]; omega)
                      rw [hpq]
                      clear hcell hyz hpq
                      cases z
                      · have hs2 : pq1 = pq := by simpa using hsucc
                        clear hsucc
                        gi_wp2
                        go_roundw
                        case rel => exact ⟨q + 1, by omega, by go_num, by rw [hpq1, hs2], hbW.alloc hbW.size _⟩
                        case measure => simp [intOf]; omega
                      · have hs2 : pq1 = pq + 1 := by simpa using hsucc
                        clear hsucc
                        gi_wp2
                        go_roundw
                        case rel => exact ⟨q + 1, by omega, by go_num, by rw [hpq1, hs2]; go_num, hbW.alloc hbW.size _⟩
                        case measure => simp [intOf]; omega
                    · obtain rfl : m = q := by omega
                      have hlt' : ¬ (m : Int) < (m : Int) := by omega
                      rw [HPr.out]
                      have c14w := (hbW.cell (p := ⟨X14, 0, none⟩) (Blk.lt h14)).trans c14
                      have hk6w := Blk.below hk6 hbW (Blk.lt hk6)
                      have c6w := Blk.cells hk6w
                      have hk8w := Blk.below hk8 hbW (Blk.lt hk8)
                      have hOw := hO.below hbW
                      have h14w := Arr.below h14 hbW (Blk.lt h14)
                      have hKw : Kx X14 GO W wr := Kx.of_below hbW
                      clear hbW hlt hq hO h14 c14 c6 hKrow
                      gi_wp2
                      generalize wr = W5 at *
                      have HO0 : Hid (dJ f ni L j = eX f ni L j 0) := Lib.hid (eX_zero f ni L j).symm
                      rw [HO0.out] at hOw
                      gi_loopw [112] (fun v112 wr => ∃ q : Nat, q ≤ a ∧ v112 = .int .i64 (q : Int) ∧ Builds W2 wr 5 1 (some ⟨GO, 0, none⟩) nf nf (u8s ((List.range nf).map (outE ys (eX f ni L j q)))) ∧ Kx X14 GO W wr ∧ Kx X14 GO W5 wr ∧ W5.grownBy wr (some GO))
                        (fun v112 _ => a - (intOf v112).toNat)
                      case atStart => exact ⟨0, by omega, rfl, hOw, hKw, Kx.refl _, only_refl' W5 GO⟩
                      case round =>
                        clear hKw hOw
                        obtain ⟨q, hq, rfl, hOw, hKw, hK5, hg5⟩ := hrel
                        by_cases hlt : q < a
                        · have hlt' : (q : Int) < (a : Int) := by omega
                          obtain ⟨it, hi1, hi2, hi3, hi4, hi5⟩ := HIt.out q (by omega)
                          obtain ⟨b', off', he', hcell⟩ := (hKw.rd hKitems (by have := hK.size; omega) (by omega) (by omega)).at_ (by rw [ints_length]; have := HI.out.2.2.1; omega)
                          simp only [Option.some.injEq, Addr.mk.injEq, and_true] at he'
                          obtain ⟨rfl, rfl⟩ := he'
                          have c1 := hcell q _ (ints_get ys q (by have := HI.out.2.2.1; omega))
                          rw [hi1, Nat.zero_add] at c1
                          have c8 := Blk.cell (hK5.blk hk8w (by omega) (by omega)) 0
                          have co := Builds.cell hOw it (by omega)
                          have fo := Builds.free hOw it
                          rw [u8s_get _ _ (by simpa using hi2)] at co
                          have hval : nth ((List.range nf).map (outE ys (eX f ni L j q))) it = eX f ni L j q q := by
                            have := outE_at HI.out.1 (eX f ni L j q) (k := q) (by have := HI.out.2.2.1; omega)
                            rw [hi3] at this
                            simp [nth, hi2, this]
                          rw [hval] at co
                          have hxle := eX_le f ni L j q q
                          obtain ⟨z, hz⟩ : ∃ z, eX f ni L j q q = z := ⟨_, rfl⟩
                          rw [hz] at co hxle
                          have hz15 : z ≤ 16 := by omega
                          have hset := Lib.hid (fun (u : Int) (hu : u = ((z + 1 : Nat) : Int)) => show Builds W2 (wr.setCell ⟨GO, it, none⟩ (.int .u8 u)) 5 1 (some ⟨GO, 0, none⟩) nf nf (u8s ((List.range nf).map (outE ys (eX f ni L j (q + 1))))) from by
                            have := Builds.set hOw it (by omega) (.int .u8 u)
                            rw [show (u8s ((List.range nf).map (outE ys (eX f ni L j q)))).set it (.int .u8 u) = u8s (((List.range nf).map (outE ys (eX f ni L j q))).set it (z + 1)) by rw [hu]; simp [u8s, List.map_set]] at this
                            rw [show ((List.range nf).map (outE ys (eX f ni L j q))).set it (z + 1) = (List.range nf).map (outE ys (eX f ni L j (q + 1))) from by
                              apply List.ext_getElem
                              · simp
                              · intro i h1 h2
                                simp only [List.length_set, List.length_map, List.length_range] at h1
                                have hst := outE_step HI.out.1 (eX f ni L j q) (q := q) (by have := HI.out.2.2.1; omega) i
                                rw [← eX_step, hi3] at hst
                                rw [List.getElem_set, List.getElem_map, List.getElem_map, List.getElem_range, hst]
                                by_cases e : it = i
                                · subst e
                                  rw [if_pos rfl, if_pos rfl]
                                  have := outE_at HI.out.1 (eX f ni L j q) (k := q) (by have := HI.out.2.2.1; omega)
                                  rw [hi3, hz] at this
                                  omega
                                · rw [if_neg e, if_neg (fun e' => e e'.symm)]] at this
                            exact this)
                          have hKs := Lib.hid (fun (u : Value) => And.intro (hKw.set (g := GO) (.inr rfl) it u) (And.intro (hK5.set (g := GO) (.inr rfl) it u) (only_set hg5 it u)))
                          clear hcell hz hval hi1 hi3 hi4
                          gi_wp2
                          go_roundw
                          case rel => exact ⟨q + 1, by omega, by go_num, hset.out _ (by first | rfl | go_num | (push_cast; rfl) | omega), (hKs.out _).1, (hKs.out _).2.1, (hKs.out _).2.2⟩
                          case measure => simp [intOf]; omega
                        · obtain rfl : a = q := by omega
                          have hlt' : ¬ (a : Int) < (a : Int) := by omega
                          have h14v : Arr wr X14 3 1 (fun _ => .int .i64 (m : Int)) := Blk.only h14w hg5 (by omega)
                          have c14v := Arr.cell h14v 0 (by omega)
                          have f14v := Arr.free h14v 0
                          have hset := Lib.hid (fun (u : Int) (hu : u = ((2 * P : Nat) : Int)) => And.intro (show Arr (wr.setCell ⟨X14, 0, none⟩ (.int .i64 u)) X14 3 1 (fun _ => .int .i64 ((mJ f ni L (j + 1) : Nat) : Int)) from by
                            refine (Arr.set h14v 0 (.int .i64 u)).congr fun k hk => ?_
                            rw [if_pos (by omega), hu, mJ, HJ.out.2.1, ← HJ.out.2.2.2.2.2, HJ.out.2.2.2.1]) (And.intro (show Builds W2 (wr.setCell ⟨X14, 0, none⟩ (.int .i64 u)) 5 1 (some ⟨GO, 0, none⟩) nf nf (u8s ((List.range nf).map (outE ys (dJ f ni L (j + 1))))) from by
                              have h1 := hOw
                              rw [← HJ.out.2.2.1, eX_full] at h1
                              exact ⟨h1.1.setCell (p := ⟨X14, 0, none⟩) (by show W2.heap.size ≤ X14; have := HW2.out; omega) _, own_far h1.2 (p := ⟨X14, 0, none⟩) (by simp [Value.ownBlock]; omega) _⟩)
                              (hKw.set (g := X14) (.inl rfl) 0 (.int .i64 u))))
                          have hP640 : P ≤ 640 := by omega
                          clear hOw hg5 hK5
                          gi_wp2
                          have hfin := hset.out _ (show (2 : Int) * (P : Int) = ((2 * P : Nat) : Int) by omega)
                          have hlen : (pre ++ [x]).length = j + 1 := by rw [List.length_append, HJ.out.1]; rfl
                          refine ⟨rfl, hfin.2.2.from (by omega) (by omega), hfin.2.2.kp2 (by have := hK.size; omega) (by have := hK.size; omega) (by omega) (by omega) (by omega) (by omega), ?_, ?_, hK.trans hfin.2.2⟩
                          · (try rw [hlen]); exact hfin.1
                          · (try rw [hlen]); exact hfin.2.1
                case done =>
                  rintro D xs W hD hxs ⟨h14, hO, hK⟩ hdef
                  have hxl : xs.length = L := by rw [hxs, bwN_length]
                  rw [hxl] at hO
                  have c8 := Blk.cell (hK.blk k87 (by omega) (by omega)) 0
                  go_wp2_with fail
                  refine ⟨by simp, .inl ⟨_, _, rfl, run_takeDeferred hdef, ?_⟩⟩
                  refine ⟨.tuple #[.slice (some ⟨GO, 0, none⟩) nf nf, .int .i64 0], ?_, ?_⟩
                  · simp [results, Tryz.results43, go_sem]
                  · obtain ⟨hI, hyl, hni, hE, -, -⟩ := HI.out
                    refine .inr ⟨hE, _, _, ys, hI, hyl, by rw [← HN.out], ?_⟩
                    have hdone := out_done (fr := fr) (ys := ys) hLL.1 (by omega)
                    rw [HF.out, hni, ← HN.out] at hdone
                    rw [hdone] at hO
                    rw [Int.toNat_natCast, ← HN.out]
                    have hWD : W2.heap.size ≤ D := by have := HW2.out; omega
                    have hfin : Builds W2 (W.putObj D (.deferred none)) 5 1 (some ⟨GO, 0, none⟩) nf nf (u8s (outL fr ys L)) := ⟨hO.1.trans (belowK_b (w := W2) (n₀ := W2.heap.size) (Nat.le_refl _) W D _ _ hWD hdef rfl rfl), ownsRow_putObj hO.2 _ hdef rfl⟩
                    exact hfin.rebase hb2
end Go.Proofs.YtfcefhaaphieeaaGreat
