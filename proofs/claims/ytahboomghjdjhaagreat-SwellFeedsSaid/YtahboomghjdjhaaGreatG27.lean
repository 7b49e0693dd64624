/-
  Walks: New, Check, last.
-/
import Derived.Deep.RegionHeld3
import Derived.Test.YtahboomghjdjhaaGreatG03
import Derived.Test.YtahboomghjdjhaaGreatGOpen
import Derived.Test.YtahboomghjdjhaaGreatRows
namespace Go.Proofs.YtahboomghjdjhaaGreat
open Go.RowKit

theorem sinfo_u8 : (Tryz.prog.info? 5).map (fun i => (i.zero, i.size, i.bytes)) = some (some (.int .u8 0), 1, 1) := by kernel_rfl

/-- The last ones of some bytes. -/
def lastL (s : Nat) (l : List Nat) : List Nat := l.drop (l.length - s)

/-- A window that the call made. -/
def WinAt (w w' : World) (B : Option Addr) (d s : Nat) (l : List Nat) (v : Value) : Prop :=
  v = .agg #[.int .i64 (s : Int), .slice B l.length d] ∧ w'.ownsRow w.heap.size 5 1 (.slice B l.length d) l.length (u8s l)

theorem check_no (A : Option Addr) (c : Nat) (l : List Nat) (s : Int) (w : World) (_hm : l.length ≤ 1000000000) (h1 : -9223372036854775808 ≤ s) (h2 : s ≤ 9223372036854775807) (h : ¬ (1 ≤ s ∧ s ≤ 32768 ∧ (l.length : Int) ≤ s)) :
    Calls Tryz.prog 85 #[.agg #[.int .i64 s, .slice A l.length c]] w fun e w' => e = .returned (.int .i64 8) ∧ Below w.heap.size w w' := by
  go_enter Tryz.func85, Tryz.ntmps85
  have q : s < 1 ∨ (¬ s < 1 ∧ 32768 < s) ∨ (¬ s < 1 ∧ ¬ 32768 < s ∧ s < l.length) := by omega
  rcases q with q | ⟨q1, q2⟩ | ⟨q1, q2, q3⟩
  all_goals (go_wp2_with fail; go_ret; exact ⟨rfl, (Below.refl _ _).alloc (Nat.le_refl _) _⟩)

theorem check_yes (A : Option Addr) (c : Nat) (l : List Nat) (s : Nat) (w : World) (h1 : 1 ≤ s) (h2 : s ≤ 32768) (h : l.length ≤ s) :
    Calls Tryz.prog 85 #[.agg #[.int .i64 s, .slice A l.length c]] w fun e w' => e = .returned (.int .i64 0) ∧ Below w.heap.size w w' := by
  go_enter Tryz.func85, Tryz.ntmps85
  go_wp2_with fail
  go_ret; exact ⟨rfl, (Below.refl _ _).alloc (Nat.le_refl _) _⟩

theorem Sl.drop {w : World} {A : Option Addr} {xs : List Value} (h : Sl w A xs) (k : Nat) : Sl w (A.map fun x => x.add k) (xs.drop k) := fun hn => by
  rw [List.length_drop] at hn
  obtain ⟨b, off, e, hc⟩ := h (by omega)
  subst e
  refine ⟨b, off + k, by simp [add_plain], fun i u hu => ?_⟩
  rw [List.getElem?_drop] at hu
  rw [Nat.add_assoc]
  exact hc _ _ hu
theorem Bs.drop {w : World} {A : Option Addr} {l : List Nat} (h : Bs w A l) (k : Nat) : Bs w (A.map fun x => x.add k) (l.drop k) :=
  ⟨by have := h.1.drop k; rwa [← List.map_drop] at this, fun x hx => h.2 x (List.mem_of_mem_drop hx)⟩
theorem drop_nil {A : Option Addr} {l : List Nat} (h : A = none → l = []) (k : Nat) : (A.map fun x => x.add k) = none → l.drop k = [] := by
  intro e
  have : A = none := by simpa using e
  rw [h this]; simp

set_option maxRecDepth 100000 in
set_option maxHeartbeats 1000000 in
theorem last_any (s : Nat) (A : Option Addr) (c : Nat) (l : List Nat) (w : World) (hs1 : 1 ≤ s) (hs2 : s ≤ 32768) (hm : l.length ≤ 1000000000) (hc : l.length ≤ c) (hl : Bs w A l) (hA : A = none → l = []) :
    Calls Tryz.prog 86 #[.int .i64 s, .slice A l.length c] w fun e w' => Below w.heap.size w w' ∧ ∃ B d, e = .returned (.agg #[.int .i64 s, .slice B (lastL s l).length d]) ∧
      w'.ownsRow w.heap.size 5 1 (.slice B (lastL s l).length d) (lastL s l).length (u8s (lastL s l)) := by
  obtain ⟨i0, hi0, hz0, hz1, hz2⟩ := info_parts sinfo_u8
  have HD := Lib.hid (And.intro (hl.drop (l.length - s)) (drop_nil hA (l.length - s)))
  have hlen : (lastL s l).length = l.length - (l.length - s) := by simp [lastL]
  have hle : (lastL s l).length ≤ 32768 := by omega
  change Hid (Bs w _ (lastL s l) ∧ (_ → lastL s l = [])) at HD
  by_cases hlt : s < l.length
  · generalize lastL s l = L at *
    have hL : l.length - (l.length - s) = L.length := hlen.symm
    have HL := Lib.hid hlen
    have HA := Lib.hid hA
    clear hlen hA
    go_enter Tryz.func86, Tryz.ntmps86
    have HS := Lib.hid fun (o : Obj) => And.intro (HD.out.1.alloc o) (fun h => by rw [HD.out.2 h]; rfl : (A.map fun x => x.add (l.length - s)) = none → L.length = 0)
    go_wp2_with (at_builtin; refine wpList_app _ rfl (.const (.slice none 0 0)) (.tmp 17) _ rfl w.heap.size 5 i0 _ 1 1 Tryz.underlying22 hi0 hz0 hz1 hz2 rfl (by omega) (.slice none 0 0) 0 [] rfl (World.ownsRow_nil _ _ _ _) (A.map fun x => x.add (l.length - s)) L.length L.length (u8s L) rfl (by simp [u8s]) (HS.out _).1.1 (HS.out (.cells #[] 0)).2 (u8s_one L) L.length (by omega) (u8s L) rfl (by simp only [maxLen]; omega) (by omega) (by simp) ?_; intro A1 c1 w1 hown hg hat; have k1 : Blk w1 w.heap.size 30 #[.int .i64 0, .slice none 0 0] := (Blk.new _ _ _).grown hg (by simp [Value.ownBlock]); have x1 := Blk.cells k1; have y1 := Blk.frozens k1)
    have b1 : Below w.heap.size w w1 := ((Below.refl _ _).alloc (Nat.le_refl _) _).grown hg (by simp) (by simp [Value.ownBlock])
    have ne := own_blk_ne hown k1 (by decide)
    refine bodyPost_ret (v := .agg #[.int .i64 s, .slice A1 L.length c1]) (by simp [results, Tryz.results86, go_sem, x1]) rfl ⟨?_, A1, c1, rfl, ?_⟩
    · exact (b1.setCell (Nat.le_refl _) _).setCell (Nat.le_refl _) _
    · exact own_far (own_far hown ne _) ne _
  · have h0 : l.length - s = 0 := by omega
    have eL : lastL s l = l := by unfold lastL; rw [h0]; rfl
    rw [eL]
    have h1 : IntKind.i64.wrap ((l.length : Int) - s) = (l.length : Int) - s := IntWalk.i64_in _ (by omega)
    have hA0 : A = none → l.length = 0 := fun h => by rw [hA h]; rfl
    have HA := Lib.hid hA0
    clear hA hA0 HD eL
    rcases Nat.eq_zero_or_pos l.length with hz | hz
    · obtain rfl := List.eq_nil_of_length_eq_zero hz
      go_enter Tryz.func86, Tryz.ntmps86
      go_wp2_with (at_builtin; refine wpList_app _ rfl (.const (.slice none 0 0)) (.tmp 17) _ rfl w.heap.size 5 i0 _ 1 1 Tryz.underlying22 hi0 hz0 hz1 hz2 rfl (by omega) (.slice none 0 0) 0 [] rfl (World.ownsRow_nil _ _ _ _) A 0 0 (u8s []) rfl (by simp [u8s]) (hl.alloc _).1 HA.out (u8s_one _) 0 (by omega) (u8s []) rfl (by simp only [maxLen]; omega) (by omega) (by simp) ?_; intro A1 c1 w1 hown hg hat; have k1 : Blk w1 w.heap.size 30 #[.int .i64 0, .slice none 0 0] := (Blk.new _ _ _).grown hg (by simp [Value.ownBlock]); have x1 := Blk.cells k1; have y1 := Blk.frozens k1)
      have b1 : Below w.heap.size w w1 := ((Below.refl _ _).alloc (Nat.le_refl _) _).grown hg (by simp) (by simp [Value.ownBlock])
      have ne := own_blk_ne hown k1 (by decide)
      refine bodyPost_ret (v := .agg #[.int .i64 s, .slice A1 0 c1]) (by simp [results, Tryz.results86, go_sem, x1]) rfl ⟨?_, A1, c1, rfl, ?_⟩
      · exact (b1.setCell (Nat.le_refl _) _).setCell (Nat.le_refl _) _
      · exact own_far (own_far hown ne _) ne _
    · go_enter Tryz.func86, Tryz.ntmps86
      go_wp2_with (at_builtin; refine wpList_app _ rfl (.const (.slice none 0 0)) (.tmp 17) _ rfl w.heap.size 5 i0 _ 1 1 Tryz.underlying22 hi0 hz0 hz1 hz2 rfl (by omega) (.slice none 0 0) 0 [] rfl (World.ownsRow_nil _ _ _ _) A l.length l.length (u8s l) rfl (by simp [u8s]) (hl.alloc _).1 HA.out (u8s_one _) l.length (by omega) (u8s l) rfl (by simp only [maxLen]; omega) (by omega) (by simp) ?_; intro A1 c1 w1 hown hg hat; have k1 : Blk w1 w.heap.size 30 #[.int .i64 0, .slice none 0 0] := (Blk.new _ _ _).grown hg (by simp [Value.ownBlock]); have x1 := Blk.cells k1; have y1 := Blk.frozens k1)
      have b1 : Below w.heap.size w w1 := ((Below.refl _ _).alloc (Nat.le_refl _) _).grown hg (by simp) (by simp [Value.ownBlock])
      have ne := own_blk_ne hown k1 (by decide)
      refine bodyPost_ret (v := .agg #[.int .i64 s, .slice A1 l.length c1]) (by simp [results, Tryz.results86, go_sem, x1]) rfl ⟨?_, A1, c1, rfl, ?_⟩
      · exact (b1.setCell (Nat.le_refl _) _).setCell (Nat.le_refl _) _
      · exact own_far (own_far hown ne _) ne _

end Go.Proofs.YtahboomghjdjhaaGreat

/-
  Walks: Push.
-/
namespace Go.Proofs.YtahboomghjdjhaaGreat
open Go.RowKit

/-- May bytes and a size be a window? -/
def MayW (s : Int) (l : List Nat) : Prop := 1 ≤ s ∧ s ≤ 32768 ∧ (l.length : Int) ≤ s

/-- What is answered: a window of the call's own, and an error. -/
def WinRes (w w' : World) (e : Ending) (s : Nat) (l : List Nat) (E : Nat) : Prop :=
  Below w.heap.size w w' ∧ ∃ B d, e = .returned (.tuple #[.agg #[.int .i64 (s : Int), .slice B l.length d], .int .i64 (E : Int)]) ∧ w'.ownsRow w.heap.size 5 1 (.slice B l.length d) l.length (u8s l)

set_option maxRecDepth 100000 in
set_option maxHeartbeats 1000000 in
theorem push_ok (A B : Option Addr) (c d : Nat) (l b : List Nat) (s : Nat) (w : World) (h : MayW s l) (hbm : b.length ≤ 131072) (hc : l.length ≤ c) (hl : Bs w A l) (hA : A = none → l = []) (hb : Bs w B b) (hB : B = none → b = []) :
    Calls Tryz.prog 62 #[.agg #[.int .i64 s, .slice A l.length c], .slice B b.length d] w fun e w' => WinRes w w' e s (lastL s (l ++ b)) 0 := by
  obtain ⟨i0, hi0, hz0, hz1, hz2⟩ := info_parts sinfo_u8
  obtain ⟨h1, h2, h3⟩ := h
  have HC := Lib.hid fun w => check_yes A c l s w (by omega) (by omega) (by omega)
  have hA0 : A = none → l.length = 0 := fun h => by rw [hA h]; rfl
  have hB0 : B = none → b.length = 0 := fun h => by rw [hB h]; rfl
  have HA := Lib.hid (And.intro hA0 hB0)
  clear hA hB hA0 hB0
  go_enter Tryz.func62, Tryz.ntmps62
  go_wp2_with fail
  refine (HC.out _).mono ?_
  rintro e w1 ⟨rfl, hb1⟩
  obtain ⟨b1, z1, z2, k1, k2⟩ := box2 hb1
  have c1 := Blk.cells k1
  have hl1 := hl.below b1
  have hb1' := hb.below b1
  clear hb1
  go_wp2_with fail
  have S1 : Sl w1.drew A (u8s l) := hl1.1
  have S2 : Sl w1.drew B (u8s b) := hb1'.1
  have S3 := u8s_one b
  have S4 := u8s_append l b
  have S5 : (u8s l).length = l.length * 1 := by simp [u8s]
  have S6 : (u8s b).length = b.length * 1 := by simp [u8s]
  have S7 : (l ++ b).length = l.length + b.length := by simp
  have S8 : l.length + b.length ≤ maxLen := by simp only [maxLen]; omega
  have S9 : (l.length + b.length) * 1 ≤ 140737488355328 := by omega
  have T1 : ∀ x ∈ l ++ b, x < 256 := fun x hx => (List.mem_append.1 hx).elim (hl.2 x) (hb.2 x)
  have T2 : (l ++ b).length ≤ 1000000000 := by simp; omega
  generalize hLL : l ++ b = L at *
  have HLL := Lib.hid hLL; clear hLL
  have SS := Lib.hid (And.intro S1 (And.intro S2 (And.intro S3 (And.intro S4 (And.intro S5 (And.intro S6 (And.intro S7 (And.intro S8 S9))))))))
  have TT := Lib.hid (And.intro T1 T2)
  clear S1 S2 S3 S4 S5 S6 S7 S8 S9 T1 T2
  go_region_held3 (fun wx => wx.cell? ⟨w.heap.size, 0, none⟩ = some (.int .i64 s)) (first | exact Blk.cell k1 0 | exact x3 | exact x4 | (simp [World.cell?_setCell_other]; exact x4)) (first
    | (refine step_full _ rfl (.tmp 29) (.tmp 30) _ rfl 5 i0 _ 1 1 Tryz.underlying22 hi0 hz0 hz1 hz2 rfl (by omega) A l.length (u8s l) rfl SS.out.2.2.2.2.1 SS.out.1 HA.out.1 B b.length d (u8s b) rfl SS.out.2.2.2.2.2.1 SS.out.2.1 HA.out.2 SS.out.2.2.1 L.length SS.out.2.2.2.2.2.2.1 (u8s L) SS.out.2.2.2.1 SS.out.2.2.2.2.2.2.2.1 SS.out.2.2.2.2.2.2.2.2 ?_; intro A3 c3 w3 hs3 hn3 hc3 hg3; have k3 : Blk w3 w.heap.size 30 #[.int .i64 s, .slice A l.length c] := Blk.grown (Blk.drew k1) hg3 (by simp); have k4 : Blk w3 (w.heap.size + 1) 30 #[.int .i64 0, .slice none 0 0] := Blk.grown (Blk.drew k2) hg3 (by simp); have b3 : Below w.heap.size w w3 := Below.grown (b1.drew) hg3 (by exact b1.size) (by simp); have x3 : w3.cell? ⟨w.heap.size, 0, none⟩ = some (.int .i64 s) := Blk.cell k3 0)
    | (go_at_call 86; refine (last_any s A3 c3 L _ (Int.ofNat_le.1 h1) (Int.ofNat_le.1 h2) TT.out.2 hc3 ⟨by exact hs3, TT.out.1⟩ (fun h => List.eq_nil_of_length_eq_zero (hn3 h))).mono ?_; rintro e w4 ⟨hb4, A4, c4, rfl, hown4⟩; have k5 : Blk w4 w.heap.size 30 #[.int .i64 s, .slice A l.length c] := Blk.below (by exact k3) hb4 (by exact Blk.lt k3); have k6 : Blk w4 (w.heap.size + 1) 30 #[.int .i64 0, .slice none 0 0] := Blk.below (by exact k4) hb4 (by exact Blk.lt k4); have c6 := Blk.cells k6; have f6 := Blk.frozens k6; have x4 : w4.cell? ⟨w.heap.size, 0, none⟩ = some (.int .i64 s) := Blk.cell k5 0))
  have hle : (lastL s L).length ≤ 1000000000 := by have := TT.out.2; simp [lastL]; omega
  have ne := own_blk_ne hown4 k6 (by decide)
  have hown5 := own_far_base (base' := w.heap.size) hown4 b3.size
  have b4 := b3.trans (hb4.mono b3.size)
  clear hb4 hown4 x3 x4 hl hb hl1 hb1' hs3
  generalize hMM : lastL s L = M at *
  have HMM := Lib.hid hMM; clear hMM
  go_wp2_with fail
  refine bodyPost_ret (v := .tuple #[.agg #[.int .i64 s, .slice A4 M.length c4], .int .i64 0]) (by simp [results, Tryz.results62, go_sem, c6]) rfl ?_
  rw [HLL.out, HMM.out]
  refine ⟨?_, A4, c4, rfl, ?_⟩
  · exact (b4.setCell (by simp) _).setCell (by simp) _
  · exact own_far (own_far hown5 ne _) ne _
end Go.Proofs.YtahboomghjdjhaaGreat

/-
  Walks: Copy.
-/
namespace Go.Proofs.YtahboomghjdjhaaGreat
open Go.RowKit

/-- Bytes, and n more that stand dist ahead of the end. -/
def copyL (l : List Nat) (dist : Nat) : Nat → List Nat
  | 0 => l
  | n + 1 => copyL l dist n ++ [nth (copyL l dist n) ((copyL l dist n).length - dist)]
theorem copyL_length (l : List Nat) (dist n : Nat) : (copyL l dist n).length = l.length + n := by
  induction n with
  | zero => rfl
  | succ n ih => simp only [copyL, List.length_append, ih, List.length_cons, List.length_nil]; omega
theorem copyL_bytes {l : List Nat} (h : ∀ x ∈ l, x < 256) (dist n : Nat) : ∀ x ∈ copyL l dist n, x < 256 := by
  induction n with
  | zero => exact h
  | succ n ih =>
    intro x hx
    rcases List.mem_append.1 hx with hx | hx
    · exact ih x hx
    · rw [List.mem_singleton.1 hx]; exact nth_lt ih (by omega) _

theorem own_grown {w w' : World} {base e size n : Nat} {v : Value} {xs : List Value} (h : w.ownsRow base e size v n xs) (hg : w.grownBy w' none) : w'.ownsRow base e size v n xs := by
  refine ⟨h.1, ?_⟩
  rcases h.2 with h2 | ⟨g, cap, cur, hv, hb, hh, r⟩
  · exact .inl h2
  · refine .inr ⟨g, cap, cur, hv, hb, ?_, r⟩
    rw [hg.block g ?_ (by simp)]
    · exact hh
    · rcases Nat.lt_or_ge g w.heap.size with hlt | hge
      · exact hlt
      · rw [Array.getElem?_eq_none hge] at hh; cases hh

/-- What Copy answers. -/
def CopyRes (w w' : World) (e : Ending) (s : Nat) (l t : List Nat) (E : Nat) : Prop :=
  Below w.heap.size w w' ∧ ∃ B d C f, e = .returned (.tuple #[.agg #[.int .i64 (s : Int), .slice B l.length d], .slice C t.length f, .int .i64 (E : Int)]) ∧
    w'.ownsRow w.heap.size 5 1 (.slice B l.length d) l.length (u8s l) ∧ w'.ownsRow w.heap.size 5 1 (.slice C t.length f) t.length (u8s t)

theorem CopyRes.none_ {w w' : World} {e : Ending} {E : Nat} (h : Below w.heap.size w w') (he : e = .returned (.tuple #[.agg #[.int .i64 0, .slice none 0 0], .slice none 0 0, .int .i64 (E : Int)])) : CopyRes w w' e 0 [] [] E :=
  ⟨h, none, 0, none, 0, he, World.ownsRow_nil _ _ _ _, World.ownsRow_nil _ _ _ _⟩

set_option maxRecDepth 100000 in
set_option maxHeartbeats 1000000 in
theorem copy_bad (A : Option Addr) (c : Nat) (l : List Nat) (s dist n : Int) (w : World) (hm : l.length ≤ 1000000000) (h1 : -9223372036854775808 ≤ s) (h2 : s ≤ 9223372036854775807) (h : ¬ MayW s l) :
    Calls Tryz.prog 61 #[.agg #[.int .i64 s, .slice A l.length c], .int .i64 dist, .int .i64 n] w fun e w' => CopyRes w w' e 0 [] [] 8 := by
  have HC := Lib.hid fun w => check_no A c l s w hm h1 h2 h
  clear h
  go_enter Tryz.func61, Tryz.ntmps61
  go_wp2_with fail
  refine (HC.out _).mono ?_
  rintro e w1 ⟨rfl, hb1⟩
  obtain ⟨b1, z1, z2, k1, k2⟩ := box2 hb1
  have c2 := Blk.cells k2
  have f2 := Blk.frozens k2
  clear hb1
  go_wp2_with fail
  refine bodyPost_ret (v := .tuple #[.agg #[.int .i64 0, .slice none 0 0], .slice none 0 0, .int .i64 8]) (by simp [results, Tryz.results61, go_sem, c2]) rfl (CopyRes.none_ ?_ rfl)
  exact (b1.setCell (by simp) _).setCell (by simp) _

set_option maxRecDepth 100000 in
set_option maxHeartbeats 1000000 in
theorem copy_arg (A : Option Addr) (c : Nat) (l : List Nat) (s : Nat) (dist n : Int) (w : World) (h : MayW s l) (hn : n < 0 ∨ 258 < n ∨ dist < 1) :
    Calls Tryz.prog 61 #[.agg #[.int .i64 s, .slice A l.length c], .int .i64 dist, .int .i64 n] w fun e w' => CopyRes w w' e 0 [] [] 2 := by
  obtain ⟨h1, h2, h3⟩ := h
  have HC := Lib.hid fun w => check_yes A c l s w (by omega) (by omega) (by omega)
  go_enter Tryz.func61, Tryz.ntmps61
  go_wp2_with fail
  refine (HC.out _).mono ?_
  rintro e w1 ⟨rfl, hb1⟩
  obtain ⟨b1, z1, z2, k1, k2⟩ := box2 hb1
  have c2 := Blk.cells k2
  have f2 := Blk.frozens k2
  clear hb1
  have q : n < 0 ∨ (¬ n < 0 ∧ 258 < n) ∨ (¬ n < 0 ∧ ¬ 258 < n ∧ dist < 1) := by omega
  rcases q with q | ⟨q1, q2⟩ | ⟨q1, q2, q3⟩
  all_goals (
    go_wp2_with fail
    refine bodyPost_ret (v := .tuple #[.agg #[.int .i64 0, .slice none 0 0], .slice none 0 0, .int .i64 2]) (by simp [results, Tryz.results61, go_sem, c2]) rfl (CopyRes.none_ ?_ rfl)
    exact (b1.setCell (by simp) _).setCell (by simp) _)

set_option maxRecDepth 100000 in
set_option maxHeartbeats 1000000 in
theorem copy_far (A : Option Addr) (c : Nat) (l : List Nat) (s : Nat) (dist n : Int) (w : World) (h : MayW s l) (hn : 0 ≤ n ∧ n ≤ 258) (hd : (l.length : Int) < dist) :
    Calls Tryz.prog 61 #[.agg #[.int .i64 s, .slice A l.length c], .int .i64 dist, .int .i64 n] w fun e w' => CopyRes w w' e 0 [] [] 60 := by
  obtain ⟨h1, h2, h3⟩ := h
  obtain ⟨hn1, hn2⟩ := hn
  have HC := Lib.hid fun w => check_yes A c l s w (by omega) (by omega) (by omega)
  have hd1 : 1 ≤ dist := by omega
  go_enter Tryz.func61, Tryz.ntmps61
  go_wp2_with fail
  refine (HC.out _).mono ?_
  rintro e w1 ⟨rfl, hb1⟩
  obtain ⟨b1, z1, z2, k1, k2⟩ := box2 hb1
  have c1 := Blk.cells k1
  have c2 := Blk.cells k2
  have f2 := Blk.frozens k2
  clear hb1
  go_wp2_with fail
  refine bodyPost_ret (v := .tuple #[.agg #[.int .i64 0, .slice none 0 0], .slice none 0 0, .int .i64 60]) (by simp [results, Tryz.results61, go_sem, c2]) rfl (CopyRes.none_ ?_ rfl)
  exact (b1.setCell (by simp) _).setCell (by simp) _

set_option maxRecDepth 100000 in
set_option maxHeartbeats 2000000 in
theorem copy_ok (A : Option Addr) (c : Nat) (l : List Nat) (s dist n : Nat) (w : World) (h : MayW s l) (hn : n ≤ 258) (hd1 : 1 ≤ dist) (hd2 : dist ≤ l.length) (hl : Bs w A l) (hA : A = none → l = []) :
    Calls Tryz.prog 61 #[.agg #[.int .i64 s, .slice A l.length c], .int .i64 dist, .int .i64 n] w fun e w' => CopyRes w w' e s (lastL s (copyL l dist n)) ((copyL l dist n).drop l.length) 0 := by
  obtain ⟨i0, hi0, hz0, hz1, hz2⟩ := info_parts sinfo_u8
  obtain ⟨h1, h2, h3⟩ := h
  have HC := Lib.hid fun w => check_yes A c l s w (by omega) (by omega) (by omega)
  have hA0 : A = none → l.length = 0 := fun h => by rw [hA h]; rfl
  have HA := Lib.hid hA0
  clear hA hA0
  go_enter Tryz.func61, Tryz.ntmps61
  go_wp2_with fail
  refine (HC.out _).mono ?_
  rintro e w1 ⟨rfl, hb1⟩
  obtain ⟨b1, z1, z2, k1, k2⟩ := box2 hb1
  have c1 := Blk.cells k1
  have hl1 := hl.below b1
  clear hb1
  go_wp2_with (at_builtin; refine wpList_app _ rfl (.const (.slice none 0 0)) (.tmp 35) _ rfl w.heap.size 5 i0 _ 1 1 Tryz.underlying22 hi0 hz0 hz1 hz2 rfl (by omega) (.slice none 0 0) 0 [] rfl (World.ownsRow_nil _ _ _ _) A l.length c (u8s l) rfl (by simp [u8s]) hl1.1 HA.out (u8s_one _) l.length (by omega) (u8s l) rfl (by simp only [maxLen]; omega) (by omega) b1.size ?_; intro A2 c2 w2 hown hg hat)
  have k3 : Blk w2 w.heap.size 30 #[.int .i64 s, .slice A l.length c] := Blk.grown k1 hg (by simp [Value.ownBlock])
  have k4 : Blk w2 (w.heap.size + 1) 30 #[.int .i64 0, .slice none 0 0] := Blk.grown k2 hg (by simp [Value.ownBlock])
  have b2 : Below w.heap.size w w2 := b1.grown hg b1.size (by simp [Value.ownBlock])
  clear c1 hg hat k1 k2
  go_loopg [10, 38] n (fun gk va vi wr => ∃ i : Nat, i ≤ n ∧ gk = n - i ∧ vi = .int .i64 i ∧ (∃ B d, va = .slice B (copyL l dist i).length d ∧ wr.ownsRow w.heap.size 5 1 (.slice B (copyL l dist i).length d) (copyL l dist i).length (u8s (copyL l dist i))) ∧ Blk wr w.heap.size 30 #[.int .i64 s, .slice A l.length c] ∧ Blk wr (w.heap.size + 1) 30 #[.int .i64 0, .slice none 0 0] ∧ Below w.heap.size w wr)
  case atStart => exact ⟨0, by omega, by omega, rfl, ⟨A2, c2, rfl, hown⟩, k3, k4, b2⟩
  case round =>
    obtain ⟨i, hi, hgk, rfl, ⟨B, d, rfl, hown⟩, k5, k6, b5⟩ := hrel
    have hml := copyL_length l dist i
    have hmb := copyL_bytes hl.2 dist i
    by_cases hlt : i < n
    · have hnext : copyL l dist (i + 1) = copyL l dist i ++ [nth (copyL l dist i) ((copyL l dist i).length - dist)] := rfl
      generalize hM : copyL l dist i = m at *
      obtain ⟨g, rfl, hg0⟩ := own_at hown (by omega)
      have hidx : m.length - dist < m.length := by omega
      have hcell : wr.cell? ⟨g, m.length - dist, none⟩ = some (.int .u8 ((nth m (m.length - dist) : Nat) : Int)) := by
        rw [hown.cellAt _ (by omega)]; simp [u8s, nth, List.getElem?_eq_getElem hidx]
      have hx := nth_lt hmb (by omega) (m.length - dist)
      generalize hX : nth m (m.length - dist) = x at *
      have HH := Lib.hid (And.intro hnext (And.intro hM (And.intro hX hmb)))
      have HL := Lib.hid hml
      have hm9 : m.length ≤ 40000 := by omega
      have hmd : dist ≤ m.length := by omega
      have hw1 : IntKind.i64.wrap ((m.length : Int) - dist) = ((m.length - dist : Nat) : Int) := by rw [IntWalk.i64_in _ (by omega)]; omega
      clear hM hX hnext hmb hml
      go_wp2_with (at_builtin; refine wpList_app _ rfl (.tmp 40) (.tmp 48) _ rfl w.heap.size 5 i0 _ 1 1 Tryz.underlying22 hi0 hz0 hz1 hz2 rfl (by omega) (.slice (some ⟨g, 0, none⟩) m.length d) m.length (u8s m) rfl (by exact hown.alloc _) (some ⟨wr.heap.size, 0, none⟩) 1 1 (u8s [x]) rfl rfl (by exact Sl.new _ _ _ _ rfl) (by simp) (u8s_one _) (m.length + 1) rfl (u8s (m ++ [x])) (u8s_append _ _) (by simp only [maxLen]; omega) (by omega) (by have := b5.size; simp; omega) ?_; intro A4 c4 w4 hown4 hg4 hat4)
      have ne5 := own_blk_ne hown k5 (by decide)
      have ne6 := own_blk_ne hown k6 (by decide)
      have k7 : Blk w4 w.heap.size 30 #[.int .i64 s, .slice A l.length c] := Blk.grown (Blk.alloc k5 _) hg4 (Ne.symm ne5)
      have k8 : Blk w4 (w.heap.size + 1) 30 #[.int .i64 0, .slice none 0 0] := Blk.grown (Blk.alloc k6 _) hg4 (Ne.symm ne6)
      have b7 := (b5.alloc b5.size _).grown hg4 (by have := b5.size; simp; omega) (own_row_ge hown)
      go_roundg (n - (i + 1))
      case measure => omega
      case rel =>
        refine ⟨i + 1, by omega, by omega, by go_num, ⟨A4, c4, ?_, ?_⟩, k7, k8, b7⟩
        · rw [HH.out.1, List.length_append, List.length_singleton]
        · rw [HH.out.1, List.length_append, List.length_singleton]; exact hown4
    · obtain rfl : i = n := by omega
      have HB := Lib.hid hmb
      have hml' : (copyL l dist i).length ≤ 40000 := by omega
      have hge : l.length ≤ (copyL l dist i).length := by omega
      generalize hM : copyL l dist i = m at *
      have HM := Lib.hid hM
      clear hM hmb
      have c5 := Blk.cells k5
      have hcd := own_cap hown
      obtain ⟨g, rfl, hg0⟩ := own_at hown (by omega)
      have hbs : Bs wr (some ⟨g, 0, none⟩) m := Bs.of_own hown HB.out
      have hdr : (m.drop l.length).length = m.length - l.length := by simp
      have hdl : (m.drop l.length).length ≤ 40000 := by omega
      have hdb : ∀ x ∈ m.drop l.length, x < 256 := fun x hx => HB.out x (List.mem_of_mem_drop hx)
      have hsl : ∀ wx, Bs wx (some ⟨g, 0, none⟩) m → Sl wx (some ⟨g, l.length, none⟩) (u8s (m.drop l.length)) := fun wx hx => by have := (hx.drop l.length).1; simp only [Option.map_some, add_plain, Nat.zero_add] at this; exact this
      generalize hT : m.drop l.length = T at *
      have HT := Lib.hid (And.intro hT (And.intro hdr (And.intro hdl (And.intro hdb hsl))))
      have HHG := Lib.hid hge
      clear hT hdr hdl hdb hsl hml'
      have hml2 := hml
      have HML := Lib.hid hml2
      have hm9 : m.length ≤ 1000000000 := by omega
      clear hml hml2
      by_cases hdc : d = l.length
      · subst hdc
        have hm0 : m.length = l.length := by have := HHG.out; omega
        have hm1 : m.length - l.length = 0 := by omega
        have HM0 := Lib.hid hm0
        clear hm0
        have hle2 : l.length ≤ m.length := HHG.out
        go_wp2_with fail
        go_region_held3 (fun wx => wx.cell? ⟨w.heap.size, 0, none⟩ = some (.int .i64 s) ∧ wx.cell? ⟨w.heap.size, 1, none⟩ = some (.slice A l.length c)) (first | exact ⟨Blk.cell k5 0, Blk.cell k5 1⟩ | exact x4 | exact x6 | (simp [World.cell?_setCell_other]; exact x6)) (first
          | (go_at_call 86; refine (last_any s (some ⟨g, 0, none⟩) l.length m _ (Int.ofNat_le.1 h1) (Int.ofNat_le.1 h2) hm9 hcd (by exact hbs) (fun h => by cases h)).mono ?_; rintro e w4 ⟨hb4, A4, c4, rfl, hown4⟩; have k7 : Blk w4 w.heap.size 30 #[.int .i64 s, .slice A l.length c] := Blk.below (by exact k5) hb4 (by exact Blk.lt k5); have k8 : Blk w4 (w.heap.size + 1) 30 #[.int .i64 0, .slice none 0 0] := Blk.below (by exact k6) hb4 (by exact Blk.lt k6); have b8 : Below w.heap.size w w4 := (b5.drew).trans (hb4.mono (by exact b5.size)); have x4 := And.intro (Blk.cell k7 0) (Blk.cell k7 1); have hbs4 : Bs w4 (some ⟨g, 0, none⟩) m := Bs.below (by exact hbs) hb4)
          | (refine step_app _ rfl (.const (.slice none 0 0)) (.tmp 59) _ rfl w.heap.size 5 i0 _ 1 1 Tryz.underlying22 hi0 hz0 hz1 hz2 rfl (by omega) (.slice none 0 0) 0 [] rfl (World.ownsRow_nil _ _ _ _) (some ⟨g, 0, none⟩) 0 0 (u8s T) rfl (by have := HT.out.2.1; simp [u8s]; exact List.eq_nil_of_length_eq_zero (by omega)) (by have h0 : T = [] := List.eq_nil_of_length_eq_zero (by have := HT.out.2.1; omega); rw [h0]; exact Sl.nil_) (fun h => by cases h) (u8s_one T) T.length (by rw [HT.out.2.1]; omega) (u8s T) rfl (by have := HT.out.2.1; have := HT.out.2.2.1; simp only [maxLen]; omega) (by have := HT.out.2.1; have := HT.out.2.2.1; omega) (by exact b8.size) ?_; intro A6 c6 w6 hown6 hg6 hat6; have k9 : Blk w6 w.heap.size 30 #[.int .i64 s, .slice A l.length c] := Blk.grown (by exact k7) hg6 (by simp [Value.ownBlock]); have k10 : Blk w6 (w.heap.size + 1) 30 #[.int .i64 0, .slice none 0 0] := Blk.grown (by exact k8) hg6 (by simp [Value.ownBlock]); have c10 := Blk.cells k10; have f10 := Blk.frozens k10; have b10 : Below w.heap.size w w6 := Below.grown (by exact b8) hg6 (by exact b8.size) (by simp [Value.ownBlock]); have hown9 : w6.ownsRow w.heap.size 5 1 (.slice A4 (lastL s m).length c4) (lastL s m).length (u8s (lastL s m)) := own_far_base (own_grown (by exact hown4) hg6) (by exact b5.size); have x6 := And.intro (Blk.cell k9 0) (Blk.cell k9 1)))
        have ne9 := own_blk_ne hown9 k10 (by decide)
        have ne6 := own_blk_ne hown6 k10 (by decide)
        have hlm : (lastL s m).length ≤ 1000000000 := by simp [lastL]; omega
        clear hb4 hown4 x4 x6 hat6 hg6 hbs4 hbs
        generalize hMM : lastL s m = M at *
        have HMM := Lib.hid hMM
        clear hMM
        go_wp2_with fail
        refine bodyPost_ret (v := .tuple #[.agg #[.int .i64 s, .slice A4 M.length c4], .slice A6 T.length c6, .int .i64 0]) (by simp [results, Tryz.results61, go_sem, c10]) rfl ?_
        rw [HM.out, HMM.out, HT.out.1]
        refine ⟨?_, A4, c4, A6, c6, rfl, ?_, ?_⟩
        · exact (b10.setCell (by simp) _).setCell (by simp) _
        · exact own_far (own_far hown9 ne9 _) ne9 _
        · exact own_far (own_far hown6 ne6 _) ne6 _
      · have hlt2 : l.length < d := by have := HHG.out; omega
        have hle2 : l.length ≤ m.length := HHG.out
        go_wp2_with fail
        go_region_held3 (fun wx => wx.cell? ⟨w.heap.size, 0, none⟩ = some (.int .i64 s) ∧ wx.cell? ⟨w.heap.size, 1, none⟩ = some (.slice A l.length c)) (first | exact ⟨Blk.cell k5 0, Blk.cell k5 1⟩ | exact x4 | exact x6 | (simp [World.cell?_setCell_other]; exact x6)) (first
          | (go_at_call 86; refine (last_any s (some ⟨g, 0, none⟩) d m _ (Int.ofNat_le.1 h1) (Int.ofNat_le.1 h2) hm9 hcd (by exact hbs) (fun h => by cases h)).mono ?_; rintro e w4 ⟨hb4, A4, c4, rfl, hown4⟩; have k7 : Blk w4 w.heap.size 30 #[.int .i64 s, .slice A l.length c] := Blk.below (by exact k5) hb4 (by exact Blk.lt k5); have k8 : Blk w4 (w.heap.size + 1) 30 #[.int .i64 0, .slice none 0 0] := Blk.below (by exact k6) hb4 (by exact Blk.lt k6); have b8 : Below w.heap.size w w4 := (b5.drew).trans (hb4.mono (by exact b5.size)); have x4 := And.intro (Blk.cell k7 0) (Blk.cell k7 1); have hbs4 : Bs w4 (some ⟨g, 0, none⟩) m := Bs.below (by exact hbs) hb4)
          | (refine step_app _ rfl (.const (.slice none 0 0)) (.tmp 59) _ rfl w.heap.size 5 i0 _ 1 1 Tryz.underlying22 hi0 hz0 hz1 hz2 rfl (by omega) (.slice none 0 0) 0 [] rfl (World.ownsRow_nil _ _ _ _) (some ⟨g, l.length, none⟩) (m.length - l.length) (d - l.length) (u8s T) rfl (by simp [u8s]; exact HT.out.2.1) (HT.out.2.2.2.2 _ (by exact hbs4)) (fun h => by cases h) (u8s_one T) T.length (by rw [HT.out.2.1]; omega) (u8s T) rfl (by have := HT.out.2.1; have := HT.out.2.2.1; simp only [maxLen]; omega) (by have := HT.out.2.1; have := HT.out.2.2.1; omega) (by exact b8.size) ?_; intro A6 c6 w6 hown6 hg6 hat6; have k9 : Blk w6 w.heap.size 30 #[.int .i64 s, .slice A l.length c] := Blk.grown (by exact k7) hg6 (by simp [Value.ownBlock]); have k10 : Blk w6 (w.heap.size + 1) 30 #[.int .i64 0, .slice none 0 0] := Blk.grown (by exact k8) hg6 (by simp [Value.ownBlock]); have c10 := Blk.cells k10; have f10 := Blk.frozens k10; have b10 : Below w.heap.size w w6 := Below.grown (by exact b8) hg6 (by exact b8.size) (by simp [Value.ownBlock]); have hown9 : w6.ownsRow w.heap.size 5 1 (.slice A4 (lastL s m).length c4) (lastL s m).length (u8s (lastL s m)) := own_far_base (own_grown (by exact hown4) hg6) (by exact b5.size); have x6 := And.intro (Blk.cell k9 0) (Blk.cell k9 1)))
        have ne9 := own_blk_ne hown9 k10 (by decide)
        have ne6 := own_blk_ne hown6 k10 (by decide)
        have hlm : (lastL s m).length ≤ 1000000000 := by simp [lastL]; omega
        clear hb4 hown4 x4 x6 hat6 hg6 hbs4 hbs
        generalize hMM : lastL s m = M at *
        have HMM := Lib.hid hMM
        clear hMM
        go_wp2_with fail
        refine bodyPost_ret (v := .tuple #[.agg #[.int .i64 s, .slice A4 M.length c4], .slice A6 T.length c6, .int .i64 0]) (by simp [results, Tryz.results61, go_sem, c10]) rfl ?_
        rw [HM.out, HMM.out, HT.out.1]
        refine ⟨?_, A4, c4, A6, c6, rfl, ?_, ?_⟩
        · exact (b10.setCell (by simp) _).setCell (by simp) _
        · exact own_far (own_far hown9 ne9 _) ne9 _
        · exact own_far (own_far hown6 ne6 _) ne6 _

end Go.Proofs.YtahboomghjdjhaaGreat
