/-
  Walks: the document's counts of the symbols of tokens.
-/
import Derived.Test.YtfcefhaaphieeaaGreatG38
import Derived.Test.YtfcefhaaphieeaaGreatGBuildK
import Derived.Test.YtfcefhaaphieeaaGreatGRefC
namespace Go.Proofs.YtfcefhaaphieeaaGreat
open Go.RowKit

/-- What lies in memory while the document counts symbols. -/
structure OftJ (gl gf : Nat) (pre : List Sy) (W : World) : Prop where
  al : Arr W gl 3 286 fun i => .int .i64 ((oftS false pre i : Nat) : Int)
  af : Arr W gf 3 30 fun i => .int .i64 ((oftS true pre i : Nat) : Int)
  ne : gl ≠ gf
theorem OftJ.below {gl gf : Nat} {pre : List Sy} {W W' : World} (h : OftJ gl gf pre W) (hb : Below W.heap.size W W') : OftJ gl gf pre W' :=
  ⟨h.al.below hb h.al.lt, h.af.below hb h.af.lt, h.ne⟩
theorem OftJ.far {gl gf : Nat} {pre : List Sy} {W : World} (h : OftJ gl gf pre W) (s : Sy) (hs : s.far = true) (v : Nat) (hv : oftS true pre s.sym = v) :
    OftJ gl gf (pre ++ [s]) (W.setCell ⟨gf, s.sym, none⟩ (.int .i64 ((v : Int) + 1))) := by
  refine ⟨?_, ?_, h.ne⟩
  · refine (h.al.far (p := ⟨gf, s.sym, none⟩) h.ne _).congr fun k _ => ?_
    rw [oftS_snoc, if_neg (by simp [hs])]
  · refine (h.af.set s.sym _).congr fun k _ => ?_
    rw [oftS_snoc]
    by_cases e : k = s.sym
    · subst e
      rw [if_pos rfl, if_pos ⟨hs, rfl⟩, hv]; simp
    · rw [if_neg e, if_neg (fun h => e h.2.symm)]
theorem OftJ.near {gl gf : Nat} {pre : List Sy} {W : World} (h : OftJ gl gf pre W) (s : Sy) (hs : s.far = false) (v : Nat) (hv : oftS false pre s.sym = v) :
    OftJ gl gf (pre ++ [s]) (W.setCell ⟨gl, s.sym, none⟩ (.int .i64 ((v : Int) + 1))) := by
  refine ⟨?_, ?_, h.ne⟩
  · refine (h.al.set s.sym _).congr fun k _ => ?_
    rw [oftS_snoc]
    by_cases e : k = s.sym
    · subst e
      rw [if_pos rfl, if_pos ⟨hs, rfl⟩, hv]; simp
    · rw [if_neg e, if_neg (fun h => e h.2.symm)]
  · refine (h.af.far (p := ⟨gl, s.sym, none⟩) (fun e => h.ne e.symm) _).congr fun k _ => ?_
    rw [oftS_snoc, if_neg (by simp [hs])]
theorem oftS_rot (far : Bool) (ss : List Sy) (s : Sy) (i : Nat) : oftS far (s :: ss) i = oftS far (ss ++ [s]) i := by
  unfold oftS
  simp only [List.filter_append, List.filter_cons, List.filter_nil]
  split <;> simp
theorem zeros_at (n i : Nat) (h : i < n) : (List.replicate n (Value.int .i64 0))[i]?.getD undef = .int .i64 0 := by simp [h]

set_option maxRecDepth 100000 in
set_option maxHeartbeats 4000000 in
theorem roften_any (T : Option Addr) (n c : Nat) (l : List Tk) (w : World) (hT : Rd w T (tkV l)) (hn : n = l.length) (hm : l.length ≤ 65535) (hk : TksOk l) :
    Calls Tryz.prog 55 #[.slice T n c] w fun e w' => ∃ gl gf, e = .returned (.tuple #[.slice (some ⟨gl, 0, none⟩) 286 286, .slice (some ⟨gf, 0, none⟩) 30 30]) ∧ Below w.heap.size w w' ∧ Rd w' (some ⟨gl, 0, none⟩) (ints (freqL false 286 (symsL l))) ∧ Rd w' (some ⟨gf, 0, none⟩) (ints (freqL true 30 (symsL l))) := by
  have HN := Lib.hid hn
  have HK := Lib.hid hk
  have hnn : n ≤ 65535 := by omega
  have HLen := Lib.hid (fun k => show (endS :: symsT l k).length ≤ 2 * k + 1 from by
    have h1 : (symsT l k).length ≤ (l.take k).length * 2 := flatMap_len syT_len _
    have h2 := List.length_take_le k l
    rw [List.length_cons]; omega)
  clear hn hk
  go_enter Tryz.func55, Tryz.ntmps55
  go_upto_region 3 with (first
    | (at_make; refine makes elem_num (z := .int .i64 0) (by kernel_rfl) rfl _ _ rfl 286 rfl rfl rfl (by omega) (by omega) (List.replicate 286 (.int .i64 0)) (zeros_ints 286) ?_; intro w3 hB3)
    | (at_make; refine makes elem_num (z := .int .i64 0) (by kernel_rfl) rfl _ _ rfl 30 rfl rfl rfl (by omega) (by omega) (List.replicate 30 (.int .i64 0)) (zeros_ints 30) ?_; intro w4 hB4))
  have hne : w.heap.size ≠ w3.heap.size := by have := hB3.arr.lt; omega
  have hj0 : OftJ w.heap.size w3.heap.size [] w4 :=
    { al := (hB3.below hB4.1).arr.congr fun k hk => zeros_at 286 k hk
      af := hB4.arr.congr fun k hk => zeros_at 30 k hk
      ne := hne }
  have hb4 : Below w.heap.size w w4 := hB3.1.trans (hB4.1.mono hB3.1.size)
  have hle : w.heap.size ≤ w3.heap.size := hB3.1.size
  obtain ⟨gl, hgl⟩ : ∃ gl, w.heap.size = gl := ⟨_, rfl⟩
  obtain ⟨gf, hgf⟩ : ∃ gf, w3.heap.size = gf := ⟨_, rfl⟩
  rw [hgl, hgf] at hj0
  rw [hgl, hgf] at hle
  rw [hgl, hgf]
  have HG := Lib.hid hgl
  clear hB3 hB4 hne hgl hgf
  have c0 := hj0.al.cell 256 (by omega)
  have f0 := hj0.al.free 256
  have y0 := hj0.al.lt
  have hj1 : OftJ gl gf [endS] (w4.setCell ⟨gl, 256, none⟩ (.int .i64 1)) := hj0.near endS rfl 0 rfl
  have hb5 : Below w.heap.size w (w4.setCell ⟨gl, 256, none⟩ (.int .i64 1)) := hb4.setCell (by rw [HG.out]; exact Nat.le_refl _) _
  go_upto_region 4 with (fail)
  generalize w4.setCell ⟨gl, 256, none⟩ (.int .i64 1) = w5 at *
  clear c0 f0 y0 hj0 hb4
  go_wp2_with fail
  go_loopg [6] n (fun gk v6 wr => ∃ k : Nat, k ≤ n ∧ gk = n - k ∧ v6 = .int .i64 (k : Int) ∧ OftJ gl gf (endS :: symsT l k) wr ∧ Below w.heap.size w wr)
  case atStart => exact ⟨0, by omega, rfl, rfl, hj1, hb5⟩
  case round =>
    obtain ⟨k, hk, hgk, rfl, hj, hb⟩ := hrel
    have HGk := Lib.hid hgk
    clear hgk hj1 hb5
    by_cases hlt : k < n
    · have hkl : k < l.length := by have := HN.out; omega
      obtain ⟨bt, off, rfl, c0, c1, c2⟩ := (hT.below hb).tk hkl
      have hlt1 := cell_lt c0
      have hsn := symsT_succ l k hkl
      obtain ⟨t1, t2⟩ := HK.out _ (List.getElem_mem hkl)
      have hpl := HLen.out k
      generalize l[k] = t at *
      obtain ⟨ta, tb, tc⟩ := t
      rcases tk_cases t1 t2 with ⟨e1, e2, e3⟩ | ⟨e1, e2, l1, l2, d1, d2, e3⟩
      all_goals dsimp only at *
      · subst e1
        subst e2
        have hta : ta < 286 := by omega
        have ca := hj.al.cell ta hta
        have fa := hj.al.free ta
        have ya := hj.al.lt
        have hle2 := oftS_le false (endS :: symsT l k) ta
        have hj2 := Lib.hid (hj.near ⟨false, ta, 0, 0⟩ rfl _ rfl)
        rw [List.cons_append, show symsT l k ++ [⟨false, ta, 0, 0⟩] = symsT l (k + 1) by rw [hsn, e3]] at hj2
        dsimp only at hj2
        have hv : oftS false (endS :: symsT l k) ta ≤ 200000 := by omega
        generalize oftS false (endS :: symsT l k) ta = v at *
        have hb2 := hb.setCell (p := ⟨gl, ta, none⟩) (by rw [HG.out]; exact Nat.le_refl _) (.int .i64 ((v : Int) + 1))
        clear hsn e3 hj hpl hle2 t1
        go_wp2_with fail
        go_roundg (n - (k + 1))
        case measure => have := HGk.out; omega
        case rel => exact ⟨k + 1, by omega, rfl, by go_num, hj2.out, hb2⟩
      · subst e2
        obtain ⟨o1, -, -⟩ := (longS_ok l1 l2).1
        obtain ⟨p1, -, -⟩ := (farS_ok d1 d2).1
        have i1 : (longS tc).sym < 286 := by simpa [longS] using o1
        have i2 : (farS tb).sym < 30 := by simpa [farS] using p1
        have HL := Lib.hid (rlong_tells tc l1 l2)
        have HF := Lib.hid (rfar_tells tb d1 d2)
        have hltb := cell_lt c1
        have HSn := Lib.hid (show (endS :: symsT l k) ++ [longS tc] ++ [farS tb] = endS :: symsT l (k + 1) by rw [hsn, e3]; simp)
        clear hsn e3 o1 p1 t1 t2
        go_wp2_with fail
        refine (HL.out _).mono ?_
        rintro e w3' ⟨rfl, b3⟩
        have c1 := (b3.cell (p := ⟨bt, off + k * 3 + 1, none⟩) hltb).trans c1
        have hltc : bt < w3'.heap.size := Nat.lt_of_lt_of_le hltb b3.size
        have hj3 := hj.below b3
        have hb3 := hb.trans (b3.mono hb.size)
        clear c0 c2 hlt1 hltb
        go_wp2_with fail
        refine (HF.out _).mono ?_
        rintro e w4' ⟨rfl, b4⟩
        have hj4 := hj3.below b4
        have hb4 := hb3.trans (b4.mono hb3.size)
        clear hj hj3 b3 b4 hb3 c1 hltc hb HL HF
        have ca := hj4.al.cell (longS tc).sym i1
        have fa := hj4.al.free (longS tc).sym
        have ya := hj4.al.lt
        have hle1 := oftS_le false (endS :: symsT l k) (longS tc).sym
        have hv1 : oftS false (endS :: symsT l k) (longS tc).sym ≤ 200000 := by omega
        obtain ⟨v1, hv1e⟩ : ∃ v, oftS false (endS :: symsT l k) (longS tc).sym = v := ⟨_, rfl⟩
        have hj5 := hj4.near (longS tc) rfl v1 hv1e
        rw [hv1e] at ca hv1
        have hb5 := hb4.setCell (p := ⟨gl, (longS tc).sym, none⟩) (by rw [HG.out]; exact Nat.le_refl _) (.int .i64 ((v1 : Int) + 1))
        clear hle1 hv1e hj4 hb4
        go_upto_region 12 with (fail)
        generalize w4'.setCell ⟨gl, (longS tc).sym, none⟩ (.int .i64 ((v1 : Int) + 1)) = w6 at *
        clear ca fa ya hv1
        have ca := hj5.af.cell (farS tb).sym i2
        have fa := hj5.af.free (farS tb).sym
        have ya := hj5.af.lt
        have hle1 := oftS_le true ((endS :: symsT l k) ++ [longS tc]) (farS tb).sym
        rw [List.length_append, List.length_singleton] at hle1
        obtain ⟨v2, hv2e⟩ : ∃ v, oftS true ((endS :: symsT l k) ++ [longS tc]) (farS tb).sym = v := ⟨_, rfl⟩
        have hj6 := hj5.far (farS tb) rfl v2 hv2e
        rw [HSn.out] at hj6
        rw [hv2e] at ca hle1
        have hv2 : v2 ≤ 200000 := by omega
        have hb6 := hb5.setCell (p := ⟨gf, (farS tb).sym, none⟩) (by rw [HG.out]; exact hle) (.int .i64 ((v2 : Int) + 1))
        clear hle1 hv2e hj5 hb5
        have HR := Lib.hid hj6
        clear hj6
        go_wp2_with fail
        go_roundg (n - (k + 1))
        case measure => have := HGk.out; omega
        case rel => exact ⟨k + 1, by omega, rfl, by go_num, HR.out, hb6⟩
    · obtain rfl : k = n := by omega
      have e : symsT l k ++ [endS] = symsL l := by rw [HN.out]; exact symsT_end l
      have r1 := hj.al.rd
      have r2 := hj.af.rd
      have e1 : ∀ far N, (List.range N).map (fun i => Value.int .i64 ((oftS far (endS :: symsT l k) i : Nat) : Int)) = ints (freqL far N (symsL l)) := fun far N => by
        rw [← freq_ints]
        apply List.map_congr_left
        intro i _
        rw [oftS_rot, e]
      rw [e1] at r1 r2
      clear e e1
      go_wp2_with fail
      go_ret2
      exact ⟨_, _, rfl, hb, r1, r2⟩
end Go.Proofs.YtfcefhaaphieeaaGreat

/-
  Walks: the document's lengths of a dynamic block.
-/
namespace Go.Proofs.YtfcefhaaphieeaaGreat
open Go.RowKit

theorem rmin_any (F : Option Addr) (n c : Nat) (fr : List Int) (L : Nat) (w : World) (hF : Rd w F (ints fr)) (hn : n = fr.length) (h1 : 1 ≤ L) (h2 : L ≤ 15) (hl : fr.length ≤ 320) (hp : fr.length ≤ 2 ^ L) (hx : ∀ x ∈ fr, 0 ≤ x ∧ x ≤ 1073741824) :
    Calls Tryz.prog 57 #[.slice F n c, .int .i64 (L : Int)] w fun e w' => ∃ A d, e = .returned (.slice A n d) ∧ Builds w w' 5 1 A n d (u8s (minL fr L)) := by
  refine (made_is F n c fr L w hF hn (ask_zero h1 h2 hl hp hx)).mono ?_
  rintro e w' ⟨A, d, ys, rfl, hB, hi⟩
  rw [minL_eq hi]
  exact ⟨A, d, rfl, hB⟩

/-- A slice under way as a block that is known whole. -/
theorem Builds.blk {W w : World} {e size n c g : Nat} {xs : List Value} (h : Builds W w e size (some ⟨g, 0, none⟩) n c xs) : ∃ cs, Blk w g e cs ∧ ∀ wx, Blk wx g e cs → Rd wx (some ⟨g, 0, none⟩) xs := by
  rcases h.2.2 with ⟨h1, _⟩ | ⟨g', cap, cur, hv, _, hh, _, _, h4, h5⟩
  · cases h1
  · simp only [Value.slice.injEq, Option.some.injEq, Addr.mk.injEq] at hv
    obtain ⟨⟨rfl, _⟩, _, rfl⟩ := hv
    refine ⟨cur, hh, fun wx hk => ⟨fun hn => ⟨g, 0, rfl, fun i u hu => ?_⟩, fun e => by cases e⟩⟩
    rw [Nat.zero_add, Blk.cell hk i]
    rw [← h5, List.getElem?_take] at hu
    split at hu
    · simpa using hu
    · cases hu

/-- A new block is a slice under way. -/
theorem Builds.fresh (w : World) (e size n : Nat) (cs : Array Value) (xs : List Value) (hx : cs.toList = xs) (hl : xs.length = n * size) (hn : n ≤ 1000000000) : Builds w (w.alloc (.cells cs e)) e size (some ⟨w.heap.size, 0, none⟩) n n xs := by
  subst hx
  refine ⟨(Below.refl _ _).alloc (Nat.le_refl _) _, hl, .inr ⟨w.heap.size, n, cs, rfl, Nat.le_refl _, heap_alloc_new w _, Nat.le_refl _, by simp only [maxLen]; omega, by simpa using hl, ?_⟩⟩
  rw [← hl, List.take_length]
theorem order_cell (j : Nat) (h : j < 19) : orderV[j]? = some (.int .i64 ((nth orderL j : Nat) : Int)) := by
  simp [orderV, nth, List.getElem?_eq_getElem (show j < orderL.length from h)]
theorem at_new {W w : World} {e size n c b : Nat} {A : Option Addr} {xs : List Value} (h : Builds W w e size A n c xs) (hn : 0 < n) (hb : b ≤ W.heap.size) : ∀ ad, A = some ad → b ≤ ad.block := fun ad e => by
  obtain ⟨g, hg, hg1, _⟩ := h.at_ hn
  rw [e] at hg
  injection hg with hg
  subst hg
  exact Nat.le_trans hb hg1
theorem fresh_ne {A : Option Addr} {b g n c n' c' off : Nat} (h : ∀ ad, A = some ad → b ≤ ad.block) (hg : g < b) : (Value.slice A n c).ownBlock ≠ (Value.slice (some ⟨g, off, none⟩) n' c').ownBlock := by
  rcases A with _ | ad
  · simp [Value.ownBlock]
  · have := h ad rfl
    simp only [Value.ownBlock]
    intro e
    injection e with e
    omega
theorem nbV_three (a b c d : List (Nat × Nat)) : nbV (a ++ (b ++ c)) ++ nbV d = nbV (a ++ (b ++ (c ++ d))) := by simp [nbV_append]
theorem u8s_take (l : List Nat) (k : Nat) : u8s (l.take k) = (u8s l).take k := by unfold u8s; rw [List.map_take]

set_option maxRecDepth 100000 in
set_option maxHeartbeats 8000000 in
theorem rdynamic_any (T : Option Addr) (n c : Nat) (l : List Tk) (w : World) (hT : Rd w T (tkV l)) (hn : n = l.length) (hm : l.length ≤ 65535) (hk : TksOk l) :
    Calls Tryz.prog 35 #[.slice T n c] w fun e w' => ∃ A d B d' R m dR, e = .returned (.tuple #[.slice A (dLongs l).length d, .slice B (dFars l).length d', .slice R m dR]) ∧ m = (dNums l).length ∧ Below w.heap.size w w' ∧ Rd w' A (u8s (dLongs l)) ∧ Rd w' B (u8s (dFars l)) ∧ Rd w' R (nbV (dNums l)) ∧ (∀ ad, A = some ad → w.heap.size ≤ ad.block) ∧ (∀ ad, B = some ad → w.heap.size ≤ ad.block) := by
  have hlen := symsL_len l
  have HOf := Lib.hid (roften_any T n c l w hT hn hm hk)
  have HM1 := Lib.hid fun wx F h => rmin_any F 286 286 (freqL false 286 (symsL l)) 15 wx h (freqL_length _ _ _).symm (by omega) (by omega) (by rw [freqL_length]; omega) (by rw [freqL_length]; decide) (freqL_in _ _ _ (by omega))
  have HM2 := Lib.hid fun wx F h => rmin_any F 30 30 (freqL true 30 (symsL l)) 15 wx h (freqL_length _ _ _).symm (by omega) (by omega) (by rw [freqL_length]; omega) (by rw [freqL_length]; decide) (freqL_in _ _ _ (by omega))
  have n1 : (minL (freqL false 286 (symsL l)) 15).length = 286 := by rw [(min_longs l).len, freqL_length]
  have n2 : (minL (freqL true 30 (symsL l)) 15).length = 30 := by rw [(min_fars l).len, freqL_length]
  have x1 : ∀ x ∈ minL (freqL false 286 (symsL l)) 15, x < 256 := fun x hx => by have := (min_longs l).le x hx; omega
  have x2 : ∀ x ∈ minL (freqL true 30 (symsL l)) 15, x < 256 := fun x hx => by have := (min_fars l).le x hx; omega
  have k1 := dLongs_len l
  have k2 := dFars_len l
  have e1 : dLongs l = (minL (freqL false 286 (symsL l)) 15).take (toldN (minL (freqL false 286 (symsL l)) 15) 257) := rfl
  have e2 : dFars l = (minL (freqL true 30 (symsL l)) 15).take (toldN (minL (freqL true 30 (symsL l)) 15) 1) := rfl
  have m1 : (dLongs l).length = toldN (minL (freqL false 286 (symsL l)) 15) 257 := cutL_length _ _
  have m2 : (dFars l).length = toldN (minL (freqL true 30 (symsL l)) 15) 1 := cutL_length _ _
  rw [m1] at k1
  rw [m2] at k2
  generalize minL (freqL false 286 (symsL l)) 15 = M1 at *
  generalize minL (freqL true 30 (symsL l)) 15 = M2 at *
  have HT1 := Lib.hid fun (A : Option Addr) (d : Nat) (wx : World) (hA : Rd wx A (u8s M1)) (hd : 286 ≤ d) => rcut_any A 286 d M1 257 wx hA x1 n1.symm hd (by omega) (by omega)
  have HT2 := Lib.hid fun (A : Option Addr) (d : Nat) (wx : World) (hA : Rd wx A (u8s M2)) (hd : 30 ≤ d) => rcut_any A 30 d M2 1 wx hA x2 n2.symm hd (by omega) (by omega)
  generalize toldN M1 257 = t1 at *
  generalize toldN M2 1 = t2 at *
  have E1 := Lib.hid (And.intro e1 m1)
  have E2 := Lib.hid (And.intro e2 m2)
  have hR := dAll_len l
  obtain ⟨R, hRe⟩ : ∃ R, (dAll l).length = R := ⟨_, rfl⟩
  rw [hRe] at hR
  have RE := Lib.hid hRe
  have hN : (dLongs l ++ dFars l).length = t1 + t2 := by rw [List.length_append, E1.out.2, E2.out.2]
  have HQ := Lib.hid fun (S : Option Addr) (c : Nat) (wx : World) (hS : Rd wx S (u8s (dLongs l ++ dFars l))) => show Calls Tryz.prog 58 #[.slice S (t1 + t2) c] wx (fun e w' => ∃ B d, e = .returned (.slice B R d) ∧ Builds wx w' 96 2 B R d (runV (dAll l))) from by
    have h := runs_of_any S c (dLongs l ++ dFars l) wx (rd_u8 hS fun x hx => by
      rcases List.mem_append.1 hx with hx | hx
      · have := dLongs_le l x hx; omega
      · have := dFars_le l x hx; omega) (by omega)
    rw [hN] at h
    refine h.mono ?_
    rintro e w' ⟨B, d, rfl, hB⟩
    have he : runsFrom (dLongs l ++ dFars l) 0 = dAll l := rfl
    rw [he, hRe] at hB ⊢
    exact ⟨B, d, rfl, hB⟩
  have HO := Lib.hid (dAll_ok l)
  have HMn := Lib.hid fun wx g (h : Rd wx (some ⟨g, 0, none⟩) (ints (freqR (dAll l)))) => show Calls Tryz.prog 57 #[.slice (some ⟨g, 0, none⟩) 19 19, .int .i64 7] wx (fun e w' => ∃ A d, e = .returned (.slice A 19 d) ∧ Builds wx w' 5 1 A 19 d (u8s (dShorts l))) from
    rmin_any (some ⟨g, 0, none⟩) 19 19 (freqR (dAll l)) 7 wx h (freqR_length _).symm (by omega) (by omega) (by rw [freqR_length]; omega) (by rw [freqR_length]; decide) (freqR_in _ (by rw [hRe]; omega))
  clear e1 e2 m1 m2 hlen x1 x2 n1 n2 hn hk hN hRe
  go_enter Tryz.func35, Tryz.ntmps35
  go_wp2_with fail
  refine (HOf.out).mono ?_
  rintro e w1 ⟨gl, gf, rfl, b1, r1, r2⟩
  clear HOf
  go_wp2_with fail
  refine (HM1.out _ _ r1).mono ?_
  rintro e w2 ⟨A1, d1, rfl, hB1⟩
  have b2 := b1.trans (hB1.1.mono b1.size)
  have r2 := r2.below hB1.1
  have c1 := hB1.cap
  have a1 := hB1.rd
  have G1 := Lib.hid (show ∀ ad, A1 = some ad → w.heap.size ≤ ad.block from at_new hB1 (by omega) b1.size)
  clear r1 hB1 HM1 b1
  go_wp2_with fail
  refine (HT1.out A1 d1 _ a1 c1).mono ?_
  rintro e w2' ⟨rfl, rfl⟩
  have a1 := a1.take t1
  rw [← u8s_take, ← E1.out.1] at a1
  clear HT1
  go_wp2_with fail
  refine (HM2.out _ _ r2).mono ?_
  rintro e w3 ⟨A2, d2, rfl, hB2⟩
  have b3 := b2.trans (hB2.1.mono b2.size)
  have a1 := a1.below hB2.1
  have c2 := hB2.cap
  have a2 := hB2.rd
  have G2 := Lib.hid (show ∀ ad, A2 = some ad → w.heap.size ≤ ad.block from at_new hB2 (by omega) b2.size)
  clear r2 hB2 HM2 b2
  go_wp2_with fail
  refine (HT2.out A2 d2 _ a2 c2).mono ?_
  rintro e w3' ⟨rfl, rfl⟩
  have a2 := a2.take t2
  rw [← u8s_take, ← E2.out.1] at a2
  clear HT2
  have y1 : (u8s (dLongs l)).length = t1 * 1 := by rw [u8s_length, E1.out.2]; omega
  have y2 : (u8s (dFars l)).length = t2 * 1 := by rw [u8s_length, E2.out.2]; omega
  have Y1 := Lib.hid y1
  have Y2 := Lib.hid y2
  clear y1 y2
  go_wp2_with (first
    | (at_builtin; refine grow relem_u8 rfl (.tmp 34) (.tmp 35) rfl rfl (Builds.nil_ w3 _ _) rfl a1 Y1.out (u8s_one _) t1 (by omega) (u8s (dLongs l)) (by simp) (by omega) (by omega) ?_; intro B4 d4 w4 hB4 hg4)
    | (at_builtin; refine grow relem_u8 rfl (.tmp 37) (.tmp 38) rfl rfl hB4 rfl (a2.below hB4.1) Y2.out (u8s_one _) (t1 + t2) rfl (u8s (dLongs l ++ dFars l)) (u8s_append _ _).symm (by omega) (by omega) ?_; intro B5 d5 w5 hB5 hg5))
  have b5 := b3.trans (hB5.1.mono b3.size)
  have a1 := a1.below hB5.1
  have a2 := a2.below hB5.1
  have r5 := hB5.rd
  clear hB4 hg4 hB5 hg5 b3
  refine (HQ.out _ _ _ r5).mono ?_
  rintro e w6 ⟨C, dC, rfl, hB6⟩
  have b6 := b5.trans (hB6.1.mono b5.size)
  have a1 := a1.below hB6.1
  have a2 := a2.below hB6.1
  have r6 := hB6.rd
  clear r5 hB6 HQ b5
  go_wp2_with (at_make; refine makes elem_num (z := .int .i64 0) (by kernel_rfl) rfl _ _ rfl 19 rfl rfl rfl (by omega) (by omega) (List.replicate 19 (.int .i64 0)) (zeros_ints 19) ?_; intro w7 hB7)
  obtain ⟨gO, hgO⟩ : ∃ gO, w6.heap.size = gO := ⟨_, rfl⟩
  have hg8 : w6.heap.size ≤ gO := by omega
  rw [hgO] at hB7
  have hA7 : Arr w7 gO 3 19 fun i => .int .i64 ((oftR ([] : List (Int × Int)) i : Nat) : Int) := hB7.arr.congr fun k hk => zeros_at 19 k hk
  have hb7 := hB7.1
  have HGO := Lib.hid hgO
  rw [hgO]
  clear hgO hB7
  go_loopg [12] R (fun gk v12 wr => ∃ k : Nat, k ≤ R ∧ gk = R - k ∧ v12 = .int .i64 (k : Int) ∧ Below w6.heap.size w6 wr ∧ Arr wr gO 3 19 fun i => .int .i64 ((oftR ((dAll l).take k) i : Nat) : Int))
  case atStart => exact ⟨0, by omega, rfl, rfl, hb7, hA7⟩
  case round =>
    clear hA7 hb7
    obtain ⟨k, hk, hgk, rfl, hb, hA⟩ := hrel
    have HG := Lib.hid hgk
    clear hgk
    by_cases hlt : k < R
    · have hkr : k < (dAll l).length := by have := RE.out; omega
      obtain ⟨b, off, rfl, c0, c1'⟩ := (r6.below hb).pair hkr
      have hlt1 := cell_lt c0
      obtain ⟨o1, o2, o3, o4⟩ := HO.out _ (List.getElem_mem hkr)
      have HS := Lib.hid (oftR_snoc ((dAll l).take k) ((dAll l)[k]))
      rw [← List.take_succ_eq_append_getElem hkr] at HS
      generalize (dAll l)[k] = r at *
      obtain ⟨ra, rb⟩ := r
      dsimp only at *
      obtain ⟨y, rfl⟩ : ∃ y : Nat, ra = (y : Int) := ⟨ra.toNat, by omega⟩
      have hy : y < 19 := by omega
      have cy := hA.cell y hy
      have fy := hA.free y
      have hgl := hA.lt
      have hle := oftR_le ((dAll l).take k) y
      rw [List.length_take] at hle
      have hv : oftR ((dAll l).take k) y ≤ 316 := by omega
      obtain ⟨v, hvv⟩ : ∃ v, oftR ((dAll l).take k) y = v := ⟨_, rfl⟩
      rw [hvv] at cy hv
      have HV := Lib.hid hvv
      clear hle hvv o4
      go_wp2_with fail
      go_roundg (R - (k + 1))
      case measure => have := HG.out; omega
      case rel =>
        refine ⟨k + 1, by omega, rfl, by go_num, hb.setCell hg8 _, (hA.set y _).congr fun i hi => ?_⟩
        have h := HS.out i
        rw [h]
        by_cases e : i = y
        · subst e
          rw [if_pos rfl, if_pos rfl, HV.out]; simp
        · rw [if_neg e, if_neg (by omega)]
    · obtain rfl : k = R := by omega
      have e : (dAll l).take k = dAll l := by rw [List.take_of_length_le (by have := RE.out; omega)]
      rw [e] at hA
      have r9 := hA.rd
      rw [freqR_ints] at r9
      have a1 := a1.below hb
      have a2 := a2.below hb
      have r8 := r6.below hb
      have b8 := b6.trans (hb.mono b6.size)
      clear hA e hb hlt
      go_wp2_with fail
      refine (HMn.out _ _ r9).mono ?_
      rintro e w10 ⟨A5, d5, rfl, hB5⟩
      have a1 := a1.below hB5.1
      have a2 := a2.below hB5.1
      have r10 := r8.below hB5.1
      have b10 := b8.trans (hB5.1.mono b8.size)
      have s10 := hB5.rd
      clear hB5 r8 r9 HMn b8
      go_wp2_with fail
      refine (rorder_any _).mono ?_
      rintro e w11 ⟨rfl, hb11⟩
      have a1 := a1.below hb11
      have a2 := a2.below hb11
      have r11 := r10.below hb11
      have b11 := b10.trans (hb11.mono b10.size)
      have s11 := s10.below hb11
      clear hb11 r10 s10 b10
      have HD := Lib.hid (And.intro (dShorts_len l) (dShorts_le l))
      go_wp2_with (refine wpList_store_new rfl _ _ _ rfl _ orderV rfl rfl (by simp) _ _ (by kernel_rfl) rfl (by kernel_rfl) ?_)
      have hkO : Blk (w11.alloc (.cells orderV 94)) w11.heap.size 94 orderV := Blk.new _ _ _
      have a1 := a1.alloc (.cells orderV 94)
      have a2 := a2.alloc (.cells orderV 94)
      have r12 := r11.alloc (.cells orderV 94)
      have s12 := s11.alloc (.cells orderV 94)
      have b12 := b11.alloc b11.size (.cells orderV 94)
      obtain ⟨go, hgo⟩ : ∃ go, w11.heap.size = go := ⟨_, rfl⟩
      rw [hgo] at hkO
      rw [hgo]
      generalize w11.alloc (.cells orderV 94) = w12 at *
      clear hgo r11 s11 b11
      go_loopg [15, 16] 19 (fun gk v15 v16 wr => ∃ j B d, j ≤ 19 ∧ gk = 19 - j ∧ v16 = .int .i64 (j : Int) ∧ v15 = .slice B j d ∧ Builds w12 wr 5 1 B j d (u8s ((orderL.take j).map (nth (dShorts l)))))
      case atStart => exact ⟨0, none, 0, by omega, rfl, rfl, rfl, Builds.nil_ _ _ _⟩
      case round =>
        obtain ⟨j, B, d, hj, hgk, rfl, rfl, hB⟩ := hrel
        have HG2 := Lib.hid hgk
        clear hgk HG
        by_cases hlt : j < 19
        · have hkO2 := Blk.below hkO hB.1 (Blk.lt hkO)
          have cO := (Blk.cell hkO2 j).trans (order_cell j hlt)
          have hltO := Blk.lt hkO2
          have hy := order_lt j
          have e := order_snoc (nth (dShorts l)) j hlt
          obtain ⟨y, hyy⟩ : ∃ y, nth orderL j = y := ⟨_, rfl⟩
          rw [hyy] at cO hy e
          have HE2 := Lib.hid e
          obtain ⟨b, off, rfl, hc⟩ := (s12.below hB.1).at_ (by rw [u8s_length, HD.out.1]; omega)
          have cy := hc y _ (u8s_get _ y (by rw [HD.out.1]; exact hy))
          have hlt1 := cell_lt cy
          generalize nth (dShorts l) y = x at *
          have hy2 : (y : Int) < 19 := by omega
          have hj2 : (j : Int) < 19 := by omega
          clear hyy hc e hkO2
          go_wp2_with (at_builtin; refine grow relem_u8 rfl (.tmp 66) (.tmp 73) rfl rfl (hB.alloc _) rfl (Rd.new' _ _ _ (u8s [x]) _ (by simp) rfl) rfl (u8s_one _) (j + 1) rfl (u8s ((orderL.take (j + 1)).map (nth (dShorts l)))) (by rw [HE2.out, u8s_append]) (by omega) (by omega) ?_; intro B2 d2' w12' hB2 hg2)
          go_roundg (19 - (j + 1))
          case measure => have := HG2.out; omega
          case rel => exact ⟨j + 1, B2, d2', by omega, rfl, by go_num, rfl, hB2⟩
        · obtain rfl : j = 19 := by omega
          have e : orderL.take 19 = orderL := rfl
          rw [e] at hB
          have a1 := a1.below hB.1
          have a2 := a2.below hB.1
          have r13 := r12.below hB.1
          have s13 := s12.below hB.1
          have b13 := b12.trans (hB.1.mono b12.size)
          have q1 : (orderL.map (nth (dShorts l))).length = 19 := by rw [List.length_map]; rfl
          have q2 : ∀ x ∈ orderL.map (nth (dShorts l)), x < 256 := fun x hx => by
            obtain ⟨i, _, rfl⟩ := List.mem_map.1 hx
            exact nth_lt (fun x hx => by have := HD.out.2 x hx; omega) (by omega) i
          have q3 : dRow l = (orderL.map (nth (dShorts l))).take (toldN (orderL.map (nth (dShorts l))) 4) := rfl
          have q4 : (dRow l).length = toldN (orderL.map (nth (dShorts l))) 4 := cutL_length _ _
          have k3 := dRow_len l
          rw [q4] at k3
          have c3 := hB.cap
          generalize orderL.map (nth (dShorts l)) = M3 at *
          have HT3 := Lib.hid (rcut_any B 19 d M3 4 wr hB.rd q2 q1.symm c3 (by omega) (by omega))
          have w3 := hB.rd
          generalize toldN M3 4 = t3 at *
          have w3 := w3.take t3
          rw [← u8s_take, ← q3] at w3
          have HRL := Lib.hid q4
          have hH : dHead l = [(t1 - 257, 5), (t2 - 1, 5), (t3 - 4, 4)] := by unfold dHead; rw [E1.out.2, E2.out.2, q4]
          have HH := Lib.hid hH
          have z1 : (t1 : Int) - 257 = ((t1 - 257 : Nat) : Int) := by omega
          have z2 : (t2 : Int) - 1 = ((t2 - 1 : Nat) : Int) := by omega
          have z3 : (t3 : Int) - 4 = ((t3 - 4 : Nat) : Int) := by omega
          clear e hlt hB s12 r12 b12 q1 q2 q3 q4 hkO hH
          go_wp2_with fail
          refine (HT3.out).mono ?_
          rintro e w13 ⟨rfl, rfl⟩
          clear HT3
          go_wp2_with fail
          obtain ⟨wO, rfl⟩ : ∃ wo : World, wo = wr := ⟨_, rfl⟩
          have A1O := a1
          have A2O := a2
          clear a1 a2
          have BO : Builds wO (wO.alloc (.cells #[Value.int .u32 ((t1 - 257 : Nat) : Int), .int .i64 5, .int .u32 ((t2 - 1 : Nat) : Int), .int .i64 5, .int .u32 ((t3 - 4 : Nat) : Int), .int .i64 4] 72)) 72 2 (some ⟨wO.heap.size, 0, none⟩) 3 3 (nbV (dHead l)) :=
            Builds.fresh wO _ 2 3 _ _ (by rw [HH.out]; rfl) (by rw [nbV_length, HH.out]; rfl) (by omega)
          have HHl := Lib.hid (show (dHead l).length = 3 by rw [HH.out]; rfl)
          clear z1 z2 z3 HH
          go_loopg [17, 18] t3 (fun gk v17 v18 wx => ∃ (j : Nat) (Q : Option Addr) (d : Nat), j ≤ t3 ∧ gk = t3 - j ∧ v18 = .int .i64 (j : Int) ∧ v17 = .slice Q (3 + j) d ∧ Builds wO wx 72 2 Q (3 + j) d (nbV (dHead l ++ ((dRow l).take j).map shortN)))
          case atStart => exact ⟨0, _, _, by omega, rfl, rfl, rfl, by simpa using BO⟩
          case round =>
            clear BO
            obtain ⟨j, Q, dq, hj, hgk, rfl, rfl, hB⟩ := hrel
            have HG3 := Lib.hid hgk
            clear hgk HG2
            by_cases hlt : j < t3
            · have hjl : j < (dRow l).length := by rw [HRL.out]; exact hlt
              obtain ⟨b, off, rfl, hc⟩ := (w3.below hB.1).at_ (by rw [u8s_length]; omega)
              have cy := hc j _ (u8s_get _ j hjl)
              have hlt1 := cell_lt cy
              have hx : nth (dRow l) j < 256 := nth_lt (fun x hx => by have := dRow_le l x hx; omega) (by omega) j
              have e := take_snoc (dRow l) j hjl
              have e4 : nbV (dHead l ++ ((dRow l).take j).map shortN) ++ [Value.int .u32 ((nth (dRow l) j : Nat) : Int), .int .i64 3] = nbV (dHead l ++ ((dRow l).take (j + 1)).map shortN) := by
                rw [e, List.map_append, ← List.append_assoc, nbV_append _ ([_].map shortN)]; rfl
              have HE3 := Lib.hid e4
              generalize nth (dRow l) j = x at *
              have hmod : (x : Int) % 4294967296 = (x : Int) := by omega
              clear hc e e4
              go_wp2_with (at_builtin; refine grow elem_rn rfl (.tmp 99) (.tmp 106) rfl rfl (hB.alloc _) rfl (Rd.new' _ _ _ [Value.int .u32 (x : Int), .int .i64 3] _ (by simp) rfl) rfl (by simp [Value.oneCell']) (3 + (j + 1)) (by omega) (nbV (dHead l ++ ((dRow l).take (j + 1)).map shortN)) HE3.out (by omega) (by omega) ?_; intro A3 c3' w5' hB5 hg5)
              go_roundg (t3 - (j + 1))
              case measure => have := HG3.out; omega
              case rel => exact ⟨j + 1, A3, c3', by omega, rfl, by go_num, rfl, hB5⟩
            · obtain rfl : j = t3 := by omega
              obtain ⟨wP, rfl⟩ : ∃ wo : World, wo = wr := ⟨_, rfl⟩
              have e : (dRow l).take j = dRow l := by rw [List.take_of_length_le (by have := HRL.out; omega)]
              rw [e] at hB
              have s14 := s13.below hB.1
              have b14 := b13.trans (hB.1.mono b13.size)
              have S5 : Bs wP A5 (dShorts l) := rd_u8 s14 fun x hx => by have := HD.out.2 x hx; omega
              have HCo := Lib.hid (show Calls Tryz.prog 51 #[.slice A5 19 d5] wP (fun e w' => ∃ g d, e = .returned (.slice (some ⟨g, 0, none⟩) 19 d) ∧ Below wP.heap.size wP w' ∧ 19 ≤ d ∧ ∃ cs, Blk w' g 108 cs ∧ wP.heap.size ≤ g ∧ ∀ wy, Blk wy g 108 cs → CodAt wy g (dShorts l)) from by
                obtain ⟨q1, q2, q3, q4, q5, _⟩ := canE_ok (can_dShorts l)
                have h := made_any A5 d5 (dShorts l) wP S5 (by omega) (fun y hy => by have := q4 y hy; omega) q5
                rw [HD.out.1] at h
                refine h.mono ?_
                rintro e w' ⟨B, d, rfl, hM⟩
                obtain ⟨g, rfl, hg1, hg2⟩ := hM.at_ (by omega)
                obtain ⟨cs, hk, hr⟩ := hM.blk
                exact ⟨g, d, rfl, hM.1, hM.cap, cs, hk, hg1, fun wy hy => CodAt.of (hr wy hy)⟩)
              clear e hlt S5 s14 w3 s13
              go_wp2_with fail
              refine (HCo.out).mono ?_
              rintro e w16 ⟨ge, dE, rfl, hb16, hdE, cs, hk0, hge, hCA⟩
              have HCA := Lib.hid hCA
              have hB0 := hB.below hb16
              clear HCo hCA
              go_wp2_with fail
              go_loopg [17, 20] k (fun gk v17 v20 wr => ∃ (i : Nat) (Q : Option Addr) (d : Nat), i ≤ k ∧ gk = k - i ∧ v20 = .int .i64 (i : Int) ∧ v17 = .slice Q (3 + j + 2 * i) d ∧ Builds wO wr 72 2 Q (3 + j + 2 * i) d (nbV (dHead l ++ ((dRow l).map shortN ++ runsN (codesL (dShorts l)) ((dAll l).take i)))) ∧ Blk wr ge 108 cs)
              case atStart => exact ⟨0, _, _, by omega, rfl, rfl, rfl, by simpa [runsN] using hB0, hk0⟩
              case round =>
                clear hB0 hk0
                obtain ⟨i, Q', dq', hi, hgk, rfl, rfl, hN, hk⟩ := hrel
                have HG4 := Lib.hid hgk
                clear hgk HG3 hB
                by_cases hlt : i < k
                · have hir : i < (dAll l).length := by rw [RE.out]; exact hlt
                  obtain ⟨b, off, rfl, c0, c1'⟩ := (r13.below hN.1).pair hir
                  have hlt1 := cell_lt c0
                  obtain ⟨o1, o2, o3, o4⟩ := HO.out _ (List.getElem_mem hir)
                  have e : runsN (codesL (dShorts l)) ((dAll l).take (i + 1)) = runsN (codesL (dShorts l)) ((dAll l).take i) ++ runN (codesL (dShorts l)) ((dAll l)[i]) := by
                    rw [List.take_succ_eq_append_getElem hir, runsN_snoc]
                  have HRC := Lib.hid (fun wx (hb : Below wO.heap.size wO wx) => show wx.cell? ⟨b, off + i * 2, none⟩ = some (.int .i64 ((dAll l)[i]'hir).1) ∧ wx.cell? ⟨b, off + i * 2 + 1, none⟩ = some (.int .i64 ((dAll l)[i]'hir).2) from by
                    obtain ⟨_, _, e1, h1, h2⟩ := (r13.below hb).pair hir
                    simp only [Option.some.injEq, Addr.mk.injEq, and_true] at e1
                    obtain ⟨rfl, rfl⟩ := e1
                    exact ⟨h1, h2⟩)
                  generalize (dAll l)[i] = r at *
                  obtain ⟨ra, rb⟩ := r
                  dsimp only at *
                  obtain ⟨y, rfl⟩ : ∃ y : Nat, ra = (y : Int) := ⟨ra.toNat, by omega⟩
                  obtain ⟨z, rfl⟩ : ∃ z : Nat, rb = (z : Int) := ⟨rb.toNat, by omega⟩
                  have hy : y < 19 := by omega
                  have hsb : symBits (y : Int) ≤ 7 := by unfold symBits; (repeat' split) <;> omega
                  have hz : z < 4294967296 := by
                    have h1 : (2 : Int) ^ symBits (y : Int) ≤ 2 ^ 7 := by exact_mod_cast Nat.pow_le_pow_right (n := 2) (by omega) hsb
                    omega
                  have HBt := Lib.hid fun wx => rbits_any (y : Int) wx (by omega) (by omega)
                  obtain ⟨q1, q2⟩ := code_ok_of (can_dShorts l) y
                  have HTC := Lib.hid (fun wr (h : Blk wr ge 108 cs) => HCA.out wr h y (by rw [HD.out.1]; exact hy))
                  have HCd := Lib.hid (fun wx => rcode_any (nthC (codesL (dShorts l)) y).1 (nthC (codesL (dShorts l)) y).2 wx (by have := Nat.pow_le_pow_right (n := 2) (by omega) (show (nthC (codesL (dShorts l)) y).2 ≤ 32 by omega); omega) (by omega))
                  unfold runN at e
                  dsimp only at e
                  rw [Int.toNat_natCast, Int.toNat_natCast] at e
                  have e4 : nbV (dHead l ++ ((dRow l).map shortN ++ runsN (codesL (dShorts l)) ((dAll l).take i))) ++ [Value.int .u32 ((rev (nthC (codesL (dShorts l)) y).1 (nthC (codesL (dShorts l)) y).2 : Nat) : Int), .int .i64 (((nthC (codesL (dShorts l)) y).2 : Nat) : Int), .int .u32 (z : Int), .int .i64 ((symBits (y : Int) : Nat) : Int)] = nbV (dHead l ++ ((dRow l).map shortN ++ runsN (codesL (dShorts l)) ((dAll l).take (i + 1)))) := by
                    rw [e, ← nbV_three]; rfl
                  have HS := Lib.hid e4
                  clear e e4 o4 q1
                  generalize (nthC (codesL (dShorts l)) y).1 = v at *
                  generalize (nthC (codesL (dShorts l)) y).2 = jj at *
                  generalize rev v jj = rr at *
                  generalize symBits (y : Int) = sb at *
                  go_wp2_with fail
                  refine (HBt.out _).mono ?_
                  rintro e w17 ⟨rfl, rfl⟩
                  have s0 := And.intro (HRC.out wr hN.1) (HTC.out wr hk)
                  have HAl := Lib.hid (fun wx (h1 : Below wO.heap.size wO wx) (h2 : Blk wx ge 108 cs) => And.intro (HRC.out wx h1) (HTC.out wx h2))
                  have HD2 := Lib.hid (fun wx (b : Below wr.heap.size wr wx) => (HCd.out wx).mono fun _ w' (h : _ ∧ Below wx.heap.size wx w') => And.intro h.1 (b.trans (h.2.mono b.size)))
                  have z1 : (0 : Int) ≤ (y : Int) := by omega
                  have z2 : (y : Int) < 19 := by omega
                  have z3 : (0 : Int) ≤ (i : Int) := by omega
                  have z4 : (i : Int) < (k : Int) := by omega
                  have u1 : IntKind.u32.wrap (z : Int) = (z : Int) := by rw [IntKind.wrap_u32]; omega
                  clear c0 c1' hlt1 HBt HCd HRC HTC
                  go_wp2_with fail
                  go_region_held3 (fun wx => (wx.cell? ⟨b, off + i * 2, none⟩ = some (.int .i64 (y : Int)) ∧ wx.cell? ⟨b, off + i * 2 + 1, none⟩ = some (.int .i64 (z : Int))) ∧ wx.cell? ⟨ge, y * 2, none⟩ = some (.int .u32 (v : Int)) ∧ wx.cell? ⟨ge, y * 2 + 1, none⟩ = some (.int .u8 (jj : Int))) (first | exact s0 | exact s1 | exact HAl.out _ ((hN.below ba).alloc _).1 (Blk.alloc ka _) | exact s7) (first
                    | (go_at_call 52; (with_reducible refine Calls.mono (HD2.out _ (by first | exact Below.refl wr.heap.size wr | exact Below.drew (Below.refl wr.heap.size wr))) ?_); rintro e wa ⟨rfl, ba⟩; have ka := Blk.below hk ba (Blk.lt hk); have s1 := HAl.out _ (hN.below ba).1 ka)
                    | (refine step_grow elem_rn rfl (.tmp 125) (.tmp 143) rfl rfl (by first | exact (hN.below ba).alloc _) rfl (Rd.new' _ _ _ [Value.int .u32 (rr : Int), .int .i64 (jj : Int), .int .u32 (z : Int), .int .i64 (sb : Int)] _ (by simp) rfl) rfl (by simp [Value.oneCell']) (3 + j + 2 * (i + 1)) (by omega) (nbV (dHead l ++ ((dRow l).map shortN ++ runsN (codesL (dShorts l)) ((dAll l).take (i + 1))))) HS.out (by omega) (by omega) ?_; intro A7 c7 w7' hB7 hg7; have k7 := Blk.grown (Blk.alloc ka _) hg7 (fun e => own_blk_ne (hN.below ba).2 ka (by decide) e.symm); have s7 := HAl.out _ hB7.1 k7))
                  clear u1
                  go_wp2_with fail
                  go_roundg (k - (i + 1))
                  case measure => have := HG4.out; omega
                  case rel => exact ⟨i + 1, A7, c7, by omega, rfl, by go_num, rfl, hB7, k7⟩
                · obtain rfl : i = k := by omega
                  have e : (dAll l).take i = dAll l := by rw [List.take_of_length_le (by have := RE.out; omega)]
                  rw [e] at hN
                  have HF := Lib.hid hN
                  have hb : Below w.heap.size w wr := b13.trans (hN.1.mono b13.size)
                  have y1 : (dNums l).length = 3 + j + 2 * i := by unfold dNums; rw [List.length_append, List.length_append, List.length_map, runsN_length, HHl.out, HRL.out, RE.out]; omega
                  have Y := Lib.hid y1
                  clear e hlt y1
                  go_wp2_with fail
                  go_ret3
                  refine ⟨A1, d1, A2, d2, Q', 3 + j + 2 * i, dq', by rw [E1.out.2, E2.out.2]; rfl, Y.out.symm, hb, A1O.below hN.1, A2O.below hN.1, hN.rd, G1.out, G2.out⟩
end Go.Proofs.YtfcefhaaphieeaaGreat

/-
  Walks: all of a block's numbers, as the document has them.
-/
namespace Go.Proofs.YtfcefhaaphieeaaGreat
open Go.RowKit

def NumRes (L : List (Nat × Nat)) (w : World) (e : Ending) (w' : World) : Prop := ∃ Q d, e = .returned (.slice Q L.length d) ∧ Builds w w' 72 2 Q L.length d (nbV L)
theorem NumRes.of {L : List (Nat × Nat)} {w w' : World} {e : Ending} {Q : Option Addr} {m d : Nat} (he : e = .returned (.slice Q m d)) (hB : Builds w w' 72 2 Q m d (nbV L)) : NumRes L w e w' := by
  have h := hB.len
  rw [nbV_length] at h
  have h2 : L.length = m := by omega
  refine ⟨Q, d, ?_, ?_⟩ <;> rw [h2]
  · exact he
  · exact hB
theorem pad_test (at_ p j : Nat) (hp : p = at_ + 3 + j) (hj : j ≤ padN at_) : (p % 8 = 0 ∧ j = padN at_) ∨ (p % 8 ≠ 0 ∧ j < padN at_) := by
  unfold padN at hj ⊢; omega

set_option maxRecDepth 100000 in
set_option maxHeartbeats 4000000 in
theorem rnums_one (at_ : Nat) (R : Option Addr) (rn rc : Nat) (raw : List Nat) (T : Option Addr) (n c : Nat) (l : List Tk) (last : Bool) (w : World)
    (hT : Rd w T (tkV l)) (hn : n = l.length) (hm : l.length ≤ 65535) (hl : TksOk l) :
    Calls Tryz.prog 17 #[.int .i64 (at_ : Int), .int .u8 1, .slice R rn rc, .slice T n c, .bool last] w (NumRes (numsD at_ 1 raw l last) w) := by
  obtain ⟨b, hb⟩ : ∃ b : Nat, (if last = true then 1 else 0) = b := ⟨_, rfl⟩
  have hN : numsD at_ 1 raw l last = [(b, 1), (1, 2)] ++ (toksD (codesL longsF) (codesL farsF) l ++ [codeN (nthC (codesL longsF) 256)]) := by unfold numsD headN bodyD; rw [hb, if_neg (by omega), if_pos rfl]
  have HP := Lib.hid fun (e : Ending) (w' : World) (Q : Option Addr) (m d : Nat) (he : e = .returned (.slice Q m d)) (hB : Builds w w' 72 2 Q m d (nbV ([(b, 1), (1, 2)] ++ (toksD (codesL longsF) (codesL farsF) l ++ [codeN (nthC (codesL longsF) 256)])))) => show NumRes (numsD at_ 1 raw l last) w e w' from NumRes.of he (by rw [hN]; exact hB)
  have HT := Lib.hid fun wx (A : Option Addr) (ca : Nat) (B : Option Addr) (cb : Nat) (h : Rd wx T (tkV l)) (hA : Rd wx A (u8s longsF)) (hB : Rd wx B (u8s farsF)) => rtokens_any T n c l A 288 ca longsF B 32 cb farsF wx h hn hm hl (rd_u8 hA (by decide +kernel)) (rd_u8 hB (by decide)) (by decide +kernel) (by decide) can_longsF can_farsF (syin_fixed hl) (by decide +kernel) (by decide)
  have hml : (toksD (codesL longsF) (codesL farsF) l ++ [codeN (nthC (codesL longsF) 256)]).length ≤ 300000 := by
    have := toksD_length (codesL longsF) (codesL farsF) l
    rw [List.length_append, List.length_singleton]; omega
  generalize toksD (codesL longsF) (codesL farsF) l ++ [codeN (nthC (codesL longsF) 256)] = TK at *
  generalize numsD at_ 1 raw l last = N at *
  have hB0 : Builds w (w.alloc (.cells #[Value.int .u32 (b : Int), .int .i64 1, .int .u32 1, .int .i64 2] 72)) 72 2 (some ⟨w.heap.size, 0, none⟩) 2 2 (nbV [(b, 1), (1, 2)]) :=
    Builds.fresh w _ 2 2 _ _ rfl rfl (by omega)
  have HL := Lib.hid hml
  have HF := Lib.hid fun wx => rfarsF_any wx
  have HLg := Lib.hid fun wx => rlongsF_any wx
  clear hn hl hN hml hm
  cases last
  all_goals
    simp at hb
    subst hb
    go_enter Tryz.func17, Tryz.ntmps17
    go_wp2_with fail
    refine (HLg.out _).mono ?_
    rintro e w2 ⟨A2, da, rfl, hA⟩
    have hB1 := hB0.below hA.1
    have hT1 := hT.below hB1.1
    clear hB0
    go_wp2_with fail
    refine (HF.out _).mono ?_
    rintro e w3 ⟨B2, db, rfl, hF⟩
    have hB2 := hB1.below hF.1
    have hA3 := hA.rd.below hF.1
    have hT3 := hT1.below hF.1
    clear hB1 hT1
    go_wp2_with fail
    refine (HT.out _ A2 da B2 db hT3 hA3 hF.rd).mono ?_
    rintro e w4 ⟨Q, m, d, rfl, hm, hQ⟩
    have hB3 := hB2.below hQ.1
    have hm3 : m ≤ 300000 := by have := HL.out; omega
    have HM := Lib.hid hm
    clear hm hB2 hA hF
    go_wp2_with (at_builtin; refine grow elem_rn rfl (.tmp 28) (.tmp 32) rfl rfl hB3 rfl hQ.rd (by rw [nbV_length, HM.out]) (nbV_one _) (2 + m) rfl (nbV ([_, _] ++ TK)) (nbV_append _ _).symm (by omega) (by omega) ?_; intro A5 c5 w5 hB5 hg5)
    go_ret
    exact HP.out _ _ _ _ _ rfl hB5

set_option maxRecDepth 100000 in
set_option maxHeartbeats 4000000 in
theorem rnums_two (at_ : Nat) (R : Option Addr) (rn rc : Nat) (raw : List Nat) (T : Option Addr) (n c : Nat) (l : List Tk) (last : Bool) (w : World)
    (hT : Rd w T (tkV l)) (hn : n = l.length) (hm : l.length ≤ 65535) (hl : TksOk l) :
    Calls Tryz.prog 17 #[.int .i64 (at_ : Int), .int .u8 2, .slice R rn rc, .slice T n c, .bool last] w (NumRes (numsD at_ 2 raw l last) w) := by
  obtain ⟨b, hb⟩ : ∃ b : Nat, (if last = true then 1 else 0) = b := ⟨_, rfl⟩
  have hN : numsD at_ 2 raw l last = [(b, 1), (2, 2)] ++ dNums l ++ (toksD (codesL (dLongs l)) (codesL (dFars l)) l ++ [codeN (nthC (codesL (dLongs l)) 256)]) := by unfold numsD headN bodyD; rw [hb, if_neg (by omega), if_neg (by omega), List.append_assoc]
  have HP := Lib.hid fun (e : Ending) (w' : World) (Q : Option Addr) (m d : Nat) (he : e = .returned (.slice Q m d)) (hB : Builds w w' 72 2 Q m d (nbV ([(b, 1), (2, 2)] ++ dNums l ++ (toksD (codesL (dLongs l)) (codesL (dFars l)) l ++ [codeN (nthC (codesL (dLongs l)) 256)])))) => show NumRes (numsD at_ 2 raw l last) w e w' from NumRes.of he (by rw [hN]; exact hB)
  have l1 := dLongs_len l
  have l2 := dFars_len l
  have HT := Lib.hid fun wx (A : Option Addr) (ca : Nat) (B : Option Addr) (cb : Nat) (h : Rd wx T (tkV l)) (hA : Rd wx A (u8s (dLongs l))) (hB : Rd wx B (u8s (dFars l))) => rtokens_any T n c l A (dLongs l).length ca (dLongs l) B (dFars l).length cb (dFars l) wx h hn hm hl (rd_u8 hA fun x hx => by have := dLongs_le l x hx; omega) (rd_u8 hB fun x hx => by have := dFars_le l x hx; omega) rfl rfl (can_dLongs l) (can_dFars l) (syin_dyn hl) (by omega) (by omega)
  have HD := Lib.hid fun wx (h : Rd wx T (tkV l)) => rdynamic_any T n c l wx h hn hm hl
  have hml : (toksD (codesL (dLongs l)) (codesL (dFars l)) l ++ [codeN (nthC (codesL (dLongs l)) 256)]).length ≤ 300000 := by
    have := toksD_length (codesL (dLongs l)) (codesL (dFars l)) l
    rw [List.length_append, List.length_singleton]; omega
  have hdn := dNums_length l
  generalize toksD (codesL (dLongs l)) (codesL (dFars l)) l ++ [codeN (nthC (codesL (dLongs l)) 256)] = TK at *
  generalize (dLongs l).length = t1 at *
  generalize (dFars l).length = t2 at *
  generalize numsD at_ 2 raw l last = N at *
  have hB0 : Builds w (w.alloc (.cells #[Value.int .u32 (b : Int), .int .i64 1, .int .u32 2, .int .i64 2] 72)) 72 2 (some ⟨w.heap.size, 0, none⟩) 2 2 (nbV [(b, 1), (2, 2)]) :=
    Builds.fresh w _ 2 2 _ _ rfl rfl (by omega)
  have HL := Lib.hid hml
  have HDn := Lib.hid hdn
  clear hn hl hN hml hm l1 l2 hdn
  cases last
  all_goals
    simp at hb
    subst hb
    go_enter Tryz.func17, Tryz.ntmps17
    go_wp2_with fail
    refine (HD.out _ (hT.alloc _)).mono ?_
    rintro e w2 ⟨A2, da, B2, db, Q, m, d, rfl, hm, hb2, rA, rB, rQ, gA, gB⟩
    have hB1 := hB0.below hb2
    have HM := Lib.hid hm
    have hm3 : m ≤ 654 := by have := HDn.out; omega
    clear hm hB0 hb2
    go_upto_region 9 with (at_builtin; refine grow elem_rn rfl (.tmp 42) (.tmp 43) rfl rfl hB1 rfl rQ (by rw [nbV_length, HM.out]) (nbV_one _) (2 + m) rfl (nbV ([_, _] ++ dNums l)) (nbV_append _ _).symm (by omega) (by omega) ?_; intro A5 c5 w5 hB5 hg5)
    have rA5 := rd_kept (n := 0) (c := 0) rA hg5 (fresh_ne gA (by simp))
    have rB5 := rd_kept (n := 0) (c := 0) rB hg5 (fresh_ne gB (by simp))
    have hT5 := hT.below hB5.1
    clear gA gB rA rB rQ hB1 hg5
    go_wp2_with fail
    refine (HT.out _ A2 da B2 db hT5 rA5 rB5).mono ?_
    rintro e w6 ⟨Q', m', d', rfl, hm', hQ⟩
    have hB6 := hB5.below hQ.1
    have hm4 : m' ≤ 300000 := by have := HL.out; omega
    have HM' := Lib.hid hm'
    clear hm' hB5
    go_wp2_with (at_builtin; refine grow elem_rn rfl (.tmp 45) (.tmp 49) rfl rfl hB6 rfl hQ.rd (by rw [nbV_length, HM'.out]) (nbV_one _) (2 + m + m') rfl (nbV ([_, _] ++ dNums l ++ TK)) (nbV_append _ _).symm (by omega) (by omega) ?_; intro A7 c7 w7 hB7 hg7)
    go_ret
    exact HP.out _ _ _ _ _ rfl hB7

def zeroL (b pd : Nat) (raw : List Nat) (i : Nat) : List (Nat × Nat) := [(b, 1), (0, 2)] ++ List.replicate pd (0, 1) ++ ([(raw.length, 16), (65535 - raw.length, 16)] ++ (raw.take i).map byteN)
theorem zeroL_succ (b pd : Nat) (raw : List Nat) (i : Nat) (h : i < raw.length) : zeroL b pd raw (i + 1) = zeroL b pd raw i ++ [(nth raw i, 8)] := by
  unfold zeroL
  rw [take_snoc raw i h, List.map_append]
  simp [byteN, List.append_assoc]
theorem pad_snoc (b j : Nat) : nbV ([(b, 1), (0, 2)] ++ List.replicate j (0, 1)) ++ [Value.int .u32 0, .int .i64 1] = nbV ([(b, 1), (0, 2)] ++ List.replicate (j + 1) (0, 1)) := by
  rw [List.replicate_succ', ← List.append_assoc, nbV_append _ [(0, 1)]]; rfl

set_option maxRecDepth 100000 in
set_option maxHeartbeats 4000000 in
theorem rnums_zero (at_ : Nat) (R : Option Addr) (rn rc : Nat) (raw : List Nat) (T : Option Addr) (n c : Nat) (l : List Tk) (last : Bool) (w : World) (ha : at_ ≤ 7)
    (hR : Rd w R (u8s raw)) (hrn : rn = raw.length) (hx : ∀ x ∈ raw, x < 256) (hrl : raw.length ≤ 65535) :
    Calls Tryz.prog 17 #[.int .i64 (at_ : Int), .int .u8 0, .slice R rn rc, .slice T n c, .bool last] w (NumRes (numsD at_ 0 raw l last) w) := by
  obtain ⟨b, hb⟩ : ∃ b : Nat, (if last = true then 1 else 0) = b := ⟨_, rfl⟩
  have hN : numsD at_ 0 raw l last = zeroL b (padN at_) raw raw.length := by unfold numsD headN bodyD zeroL rawN; rw [hb, if_pos rfl, List.take_length, List.append_assoc]; rfl
  have HP := Lib.hid fun (e : Ending) (w' : World) (Q : Option Addr) (m d : Nat) (he : e = .returned (.slice Q m d)) (hB : Builds w w' 72 2 Q m d (nbV (zeroL b (padN at_) raw raw.length))) => show NumRes (numsD at_ 0 raw l last) w e w' from NumRes.of he (by rw [hN]; exact hB)
  have HPT := Lib.hid fun p j h1 h2 => pad_test at_ p j h1 h2
  have hp7 : padN at_ ≤ 7 := by unfold padN; omega
  generalize numsD at_ 0 raw l last = N at *
  generalize hpd : padN at_ = pd at *
  have hB0 : Builds w (w.alloc (.cells #[Value.int .u32 (b : Int), .int .i64 1, .int .u32 0, .int .i64 2] 72)) 72 2 (some ⟨w.heap.size, 0, none⟩) 2 2 (nbV ([(b, 1), (0, 2)] ++ List.replicate 0 (0, 1))) :=
    Builds.fresh w _ 2 2 _ _ rfl rfl (by omega)
  have HN := Lib.hid hrn
  have HX := Lib.hid hx
  have hn2 : rn ≤ 65535 := by omega
  have z1 : (65535 : Int) - (rn : Int) = ((65535 - rn : Nat) : Int) := by omega
  have Z1 := Lib.hid z1
  clear hN hrn hx hpd z1
  cases last with
  | false =>
    simp at hb
    subst hb
    go_enter Tryz.func17, Tryz.ntmps17
    go_wp2_with fail
    go_loopg [11, 15] pd (fun gk v11 v15 wr => ∃ (j p : Nat) (Q : Option Addr) (d : Nat), j ≤ pd ∧ gk = pd - j ∧ v15 = .int .i64 (p : Int) ∧ Hid (p = at_ + 3 + j) ∧ v11 = .slice Q (2 + j) d ∧ Builds w wr 72 2 Q (2 + j) d (nbV ([(0, 1), (0, 2)] ++ List.replicate j (0, 1))))
    case atStart => exact ⟨0, at_ + 3, _, _, by omega, rfl, by go_num, Lib.hid rfl, rfl, hB0⟩
    case round =>
      clear hB0
      obtain ⟨j, p, Q, d, hj, hgk, rfl, HPj, rfl, hB⟩ := hrel
      have HG := Lib.hid hgk
      clear hgk
      have hp17 : p ≤ 20 := by have := HPj.out; omega
      rcases HPT.out p j HPj.out hj with ⟨h8, hjp⟩ | ⟨h8, hjp⟩
      · subst hjp
        have d1 : ((p : Int) % 8 != 0) = false := by rw [bne_eq_false_iff_eq]; omega
        have d2 : (p : Int) % 8 = 0 := by omega
        have z1 := Z1.out
        have e4 : nbV ([(0, 1), (0, 2)] ++ List.replicate j (0, 1)) ++ [Value.int .u32 (rn : Int), .int .i64 16, .int .u32 ((65535 - rn : Nat) : Int), .int .i64 16] = nbV (zeroL 0 j raw 0) := by
          unfold zeroL
          rw [HN.out, nbV_append _ ([_, _] ++ _)]; rfl
        have HE := Lib.hid e4
        have hR1 := hR.below hB.1
        clear h8 hp17 e4
        go_wp2_with (at_builtin; refine grow elem_rn rfl (.tmp 62) (.tmp 72) rfl rfl (hB.alloc _) rfl (Rd.new' _ _ _ [Value.int .u32 (rn : Int), .int .i64 16, .int .u32 ((65535 - rn : Nat) : Int), .int .i64 16] _ rfl rfl) rfl (by simp [Value.oneCell']) (4 + j) (by omega) (nbV (zeroL 0 j raw 0)) HE.out (by omega) (by omega) ?_; intro A5 c5 w5 hB5 hg5)
        clear hB z1
        go_loopg [11, 16] rn (fun gk v11 v16 wr => ∃ (i : Nat) (Q : Option Addr) (d : Nat), i ≤ rn ∧ gk = rn - i ∧ v16 = .int .i64 (i : Int) ∧ v11 = .slice Q (4 + j + i) d ∧ Builds w wr 72 2 Q (4 + j + i) d (nbV (zeroL 0 j raw i)))
        case atStart => exact ⟨0, _, _, by omega, rfl, rfl, rfl, hB5⟩
        case round =>
          clear hB5
          obtain ⟨i, Q', d', hi, hgk, rfl, rfl, hB⟩ := hrel
          have HG2 := Lib.hid hgk
          clear hgk
          by_cases hlt : i < rn
          · have hil : i < raw.length := by have := HN.out; omega
            obtain ⟨bb, off, rfl, hc⟩ := (hR.below hB.1).at_ (by rw [u8s_length]; omega)
            have cy := hc i _ (u8s_get _ i hil)
            have hlt1 := cell_lt cy
            have hx := nth_lt HX.out (by omega) i
            have e4 : nbV (zeroL 0 j raw i) ++ [Value.int .u32 ((nth raw i : Nat) : Int), .int .i64 8] = nbV (zeroL 0 j raw (i + 1)) := by
              rw [zeroL_succ _ _ _ _ hil, nbV_append]; rfl
            have HE2 := Lib.hid e4
            generalize nth raw i = x at *
            have hmod : (x : Int) % 4294967296 = (x : Int) := by omega
            clear hc e4
            go_wp2_with (at_builtin; refine grow elem_rn rfl (.tmp 80) (.tmp 87) rfl rfl (hB.alloc _) rfl (Rd.new' _ _ _ [Value.int .u32 (x : Int), .int .i64 8] _ (by simp) rfl) rfl (by simp [Value.oneCell']) (4 + j + (i + 1)) (by omega) (nbV (zeroL 0 j raw (i + 1))) HE2.out (by omega) (by omega) ?_; intro A6 c6 w6 hB6 hg6)
            go_roundg (rn - (i + 1))
            case measure => have := HG2.out; omega
            case rel => exact ⟨i + 1, _, _, by omega, rfl, by go_num, rfl, hB6⟩
          · obtain rfl : i = rn := by omega
            have HB := Lib.hid (show Builds w wr 72 2 Q' (4 + j + i) d' (nbV (zeroL 0 j raw raw.length)) from by have := HN.out; rw [← this]; exact hB)
            clear hB
            go_wp2_with fail
            go_ret
            exact HP.out _ _ _ _ _ rfl HB.out
      · have d1 : ((p : Int) % 8 != 0) = true := by rw [bne_iff_ne]; omega
        have d2 : ¬ ((p : Int) % 8 = 0) := by omega
        clear h8
        go_wp2_with (at_builtin; refine grow elem_rn rfl (.tmp 58) (.tmp 60) rfl rfl (hB.alloc _) rfl (Rd.new' _ _ _ [Value.int .u32 0, .int .i64 1] _ rfl rfl) rfl (by simp [Value.oneCell']) (2 + (j + 1)) (by omega) (nbV ([(0, 1), (0, 2)] ++ List.replicate (j + 1) (0, 1))) (pad_snoc _ _) (by omega) (by omega) ?_; intro A5 c5 w5 hB5 hg5)
        go_roundg (pd - (j + 1))
        case measure => have := HG.out; omega
        case rel => exact ⟨j + 1, p + 1, _, _, by omega, rfl, by go_num, Lib.hid (by have := HPj.out; omega), rfl, hB5⟩
  | true =>
    simp at hb
    subst hb
    go_enter Tryz.func17, Tryz.ntmps17
    go_wp2_with fail
    go_loopg [11, 15] pd (fun gk v11 v15 wr => ∃ (j p : Nat) (Q : Option Addr) (d : Nat), j ≤ pd ∧ gk = pd - j ∧ v15 = .int .i64 (p : Int) ∧ Hid (p = at_ + 3 + j) ∧ v11 = .slice Q (2 + j) d ∧ Builds w wr 72 2 Q (2 + j) d (nbV ([(1, 1), (0, 2)] ++ List.replicate j (0, 1))))
    case atStart => exact ⟨0, at_ + 3, _, _, by omega, rfl, by go_num, Lib.hid rfl, rfl, hB0⟩
    case round =>
      clear hB0
      obtain ⟨j, p, Q, d, hj, hgk, rfl, HPj, rfl, hB⟩ := hrel
      have HG := Lib.hid hgk
      clear hgk
      have hp17 : p ≤ 20 := by have := HPj.out; omega
      rcases HPT.out p j HPj.out hj with ⟨h8, hjp⟩ | ⟨h8, hjp⟩
      · subst hjp
        have d1 : ((p : Int) % 8 != 0) = false := by rw [bne_eq_false_iff_eq]; omega
        have d2 : (p : Int) % 8 = 0 := by omega
        have z1 := Z1.out
        have e4 : nbV ([(1, 1), (0, 2)] ++ List.replicate j (0, 1)) ++ [Value.int .u32 (rn : Int), .int .i64 16, .int .u32 ((65535 - rn : Nat) : Int), .int .i64 16] = nbV (zeroL 1 j raw 0) := by
          unfold zeroL
          rw [HN.out, nbV_append _ ([_, _] ++ _)]; rfl
        have HE := Lib.hid e4
        have hR1 := hR.below hB.1
        clear h8 hp17 e4
        go_wp2_with (at_builtin; refine grow elem_rn rfl (.tmp 62) (.tmp 72) rfl rfl (hB.alloc _) rfl (Rd.new' _ _ _ [Value.int .u32 (rn : Int), .int .i64 16, .int .u32 ((65535 - rn : Nat) : Int), .int .i64 16] _ rfl rfl) rfl (by simp [Value.oneCell']) (4 + j) (by omega) (nbV (zeroL 1 j raw 0)) HE.out (by omega) (by omega) ?_; intro A5 c5 w5 hB5 hg5)
        clear hB z1
        go_loopg [11, 16] rn (fun gk v11 v16 wr => ∃ (i : Nat) (Q : Option Addr) (d : Nat), i ≤ rn ∧ gk = rn - i ∧ v16 = .int .i64 (i : Int) ∧ v11 = .slice Q (4 + j + i) d ∧ Builds w wr 72 2 Q (4 + j + i) d (nbV (zeroL 1 j raw i)))
        case atStart => exact ⟨0, _, _, by omega, rfl, rfl, rfl, hB5⟩
        case round =>
          clear hB5
          obtain ⟨i, Q', d', hi, hgk, rfl, rfl, hB⟩ := hrel
          have HG2 := Lib.hid hgk
          clear hgk
          by_cases hlt : i < rn
          · have hil : i < raw.length := by have := HN.out; omega
            obtain ⟨bb, off, rfl, hc⟩ := (hR.below hB.1).at_ (by rw [u8s_length]; omega)
            have cy := hc i _ (u8s_get _ i hil)
            have hlt1 := cell_lt cy
            have hx := nth_lt HX.out (by omega) i
            have e4 : nbV (zeroL 1 j raw i) ++ [Value.int .u32 ((nth raw i : Nat) : Int), .int .i64 8] = nbV (zeroL 1 j raw (i + 1)) := by
              rw [zeroL_succ _ _ _ _ hil, nbV_append]; rfl
            have HE2 := Lib.hid e4
            generalize nth raw i = x at *
            have hmod : (x : Int) % 4294967296 = (x : Int) := by omega
            clear hc e4
            go_wp2_with (at_builtin; refine grow elem_rn rfl (.tmp 80) (.tmp 87) rfl rfl (hB.alloc _) rfl (Rd.new' _ _ _ [Value.int .u32 (x : Int), .int .i64 8] _ (by simp) rfl) rfl (by simp [Value.oneCell']) (4 + j + (i + 1)) (by omega) (nbV (zeroL 1 j raw (i + 1))) HE2.out (by omega) (by omega) ?_; intro A6 c6 w6 hB6 hg6)
            go_roundg (rn - (i + 1))
            case measure => have := HG2.out; omega
            case rel => exact ⟨i + 1, _, _, by omega, rfl, by go_num, rfl, hB6⟩
          · obtain rfl : i = rn := by omega
            have HB := Lib.hid (show Builds w wr 72 2 Q' (4 + j + i) d' (nbV (zeroL 1 j raw raw.length)) from by have := HN.out; rw [← this]; exact hB)
            clear hB
            go_wp2_with fail
            go_ret
            exact HP.out _ _ _ _ _ rfl HB.out
      · have d1 : ((p : Int) % 8 != 0) = true := by rw [bne_iff_ne]; omega
        have d2 : ¬ ((p : Int) % 8 = 0) := by omega
        clear h8
        go_wp2_with (at_builtin; refine grow elem_rn rfl (.tmp 58) (.tmp 60) rfl rfl (hB.alloc _) rfl (Rd.new' _ _ _ [Value.int .u32 0, .int .i64 1] _ rfl rfl) rfl (by simp [Value.oneCell']) (2 + (j + 1)) (by omega) (nbV ([(1, 1), (0, 2)] ++ List.replicate (j + 1) (0, 1))) (pad_snoc _ _) (by omega) (by omega) ?_; intro A5 c5 w5 hB5 hg5)
        go_roundg (pd - (j + 1))
        case measure => have := HG.out; omega
        case rel => exact ⟨j + 1, p + 1, _, _, by omega, rfl, by go_num, Lib.hid (by have := HPj.out; omega), rfl, hB5⟩
end Go.Proofs.YtfcefhaaphieeaaGreat

/-
  Walks: the document's Numbers at any kind, Long, Shortest, Best.
-/
namespace Go.Proofs.YtfcefhaaphieeaaGreat
open Go.RowKit

theorem rnums_any (at_ kind : Nat) (R : Option Addr) (rn rc : Nat) (raw : List Nat) (T : Option Addr) (n c : Nat) (l : List Tk) (last : Bool) (w : World) (ha : at_ ≤ 7) (hk : kind ≤ 2) (hR : Rd w R (u8s raw)) (hrn : rn = raw.length) (hx : ∀ x ∈ raw, x < 256) (hrl : raw.length ≤ 65535)
    (hT : Rd w T (tkV l)) (hn : n = l.length) (hm : l.length ≤ 65535) (hl : TksOk l) :
    Calls Tryz.prog 17 #[.int .i64 (at_ : Int), .int .u8 (kind : Int), .slice R rn rc, .slice T n c, .bool last] w (NumRes (numsD at_ kind raw l last) w) := by
  have hkc : kind = 0 ∨ kind = 1 ∨ kind = 2 := by omega
  rcases hkc with rfl | rfl | rfl
  · exact rnums_zero at_ R rn rc raw T n c l last w ha hR hrn hx hrl
  · exact rnums_one at_ R rn rc raw T n c l last w hT hn hm hl
  · exact rnums_two at_ R rn rc raw T n c l last w hT hn hm hl

/-- .. and how many bits they have. -/
def BitsOf (L : List (Nat × Nat)) (w : World) (e : Ending) (w' : World) : Prop := ∃ Q m d, e = .returned (.slice Q m d) ∧ Below w.heap.size w w' ∧ Calls Tryz.prog 18 #[.slice Q m d] w' (fun e w2 => e = .returned (.int .i64 ((lenN L : Nat) : Int)) ∧ w' = w2)
theorem rnbits_any (at_ kind : Nat) (R : Option Addr) (rn rc : Nat) (raw : List Nat) (T : Option Addr) (n c : Nat) (l : List Tk) (last : Bool) (w : World) (ha : at_ ≤ 7) (hk : kind ≤ 2) (hR : Rd w R (u8s raw)) (hrn : rn = raw.length) (hx : ∀ x ∈ raw, x < 256) (hrl : raw.length ≤ 65535)
    (hT : Rd w T (tkV l)) (hn : n = l.length) (hm : l.length ≤ 65535) (hl : TksOk l) :
    Calls Tryz.prog 17 #[.int .i64 (at_ : Int), .int .u8 (kind : Int), .slice R rn rc, .slice T n c, .bool last] w fun e w' => ∃ Q m d, e = .returned (.slice Q m d) ∧ Below w.heap.size w w' ∧ Hid (∀ wx, Below w'.heap.size w' wx → Calls Tryz.prog 18 #[.slice Q m d] wx (fun e w2 => e = .returned (.int .i64 ((lenN (numsP at_ kind raw l last) : Nat) : Int)) ∧ wx = w2)) := by
  refine (rnums_any at_ kind R rn rc raw T n c l last w ha hk hR hrn hx hrl hT hn hm hl).mono ?_
  rintro e w' ⟨Q, d, rfl, hB⟩
  have q1 := numsD_length at_ kind raw l last
  have q2 := numsP_bits (at_ := at_) (kind := kind) (raw := raw) (l := l) last hk hx hrl hl
  rw [nums_len] at q2
  refine ⟨Q, _, d, rfl, hB.1, Lib.hid fun wx hb => ?_⟩
  have h := rbitsN_any Q (numsD at_ kind raw l last).length d (numsD at_ kind raw l last) wx (hB.rd.below hb) rfl (by omega) (by omega)
  rw [nums_len]
  exact h

/-- The best of the first kinds, as the document seeks it. -/
def bestD (f : Nat → Nat) : Nat → Nat
  | 0 => 0
  | k + 1 => if f (k + 1) < f (bestD f k) then k + 1 else bestD f k
theorem bestD_two (f : Nat → Nat) : bestD f 2 = bestN f := by
  show (if f 2 < f (if f 1 < f 0 then 1 else 0) then 2 else if f 1 < f 0 then 1 else 0) = _
  unfold bestN
  by_cases h : f 1 < f 0
  · simp only [if_pos h]
  · simp only [if_neg h]
theorem bestD_le (f : Nat → Nat) : ∀ k, bestD f k ≤ k
  | 0 => Nat.le_refl _
  | k + 1 => by have := bestD_le f k; rw [bestD]; split <;> omega

end Go.Proofs.YtfcefhaaphieeaaGreat
