/-
  Walks: slices.IndexFunc, slices.ContainsFunc over tokens; asked.
-/
import Derived.Test.YtfcefhaaphieeaaGreatG06
import Derived.Test.YtfcefhaaphieeaaGreatGBlkF
namespace Go.Proofs.YtfcefhaaphieeaaGreat
open Go.RowKit

/-- All of the first k may be. -/
theorem all_take (l : List Tk) (k : Nat) (h : k < l.length) : (l.take (k + 1)).all tkB = ((l.take k).all tkB && tkB l[k]) := by
  rw [List.take_succ_eq_append_getElem h, List.all_append]; simp
theorem all_no {l : List Tk} {k : Nat} (h : k < l.length) (hb : tkB l[k] = false) : l.all tkB = false := by
  rw [List.all_eq_false]
  exact ⟨l[k], List.getElem_mem h, by simp [hb]⟩

set_option maxRecDepth 100000 in
set_option maxHeartbeats 2000000 in
theorem index_any (T : Option Addr) (n c : Nat) (l : List Tk) (w : World) (hT : Rd w T (tkV l)) (hn : n = l.length) (hm : l.length ≤ 100000) (hk : ∀ t ∈ l, TkN t) :
    Calls Tryz.prog 37 #[.slice T n c, .func (.func 21) #[] #[]] w fun e w' => (∃ i : Int, e = .returned (.int .i64 i) ∧ -1 ≤ i ∧ (0 ≤ i ↔ l.all tkB = false)) ∧ Below w.heap.size w w' := by
  have HK := Lib.hid hk
  have HN := Lib.hid hn
  have HC := Lib.hid fun t w h b0 he => asked1_any t w h b0 he
  have hn2 : n ≤ 100000 := by omega
  clear hk hn
  go_enter Tryz.func37, Tryz.ntmps37
  go_wp2_with fail
  go_loopg [8] n (fun gk v8 wr => ∃ k : Nat, k ≤ n ∧ gk = n - k ∧ v8 = .int .i64 (k : Int) ∧ Hid ((l.take k).all tkB = true) ∧ Below w.heap.size w wr)
  case atStart => exact ⟨0, by omega, rfl, rfl, Lib.hid rfl, Below.refl _ _⟩
  case round =>
    obtain ⟨k, hk, hgk, rfl, HA, hb⟩ := hrel
    have HG := Lib.hid hgk
    clear hgk
    by_cases hlt : k < n
    · have hkl : k < l.length := by have := HN.out; omega
      obtain ⟨b, off, rfl, c0, c1, c2⟩ := (hT.below hb).tk hkl
      have hlt1 := cell_lt c0
      have HT := Lib.hid (HK.out _ (List.getElem_mem hkl))
      have hs := all_take l k hkl
      rw [HA.out, Bool.true_and] at hs
      have HS := Lib.hid hs
      have HNo := Lib.hid fun h => all_no hkl h
      clear hs
      generalize l[k] = t at *
      obtain ⟨ta, tb, tc⟩ := t
      dsimp only at *
      cases hB : tkB ⟨ta, tb, tc⟩ with
      | true =>
        go_wp2_with fail
        refine (HC.out ⟨ta, tb, tc⟩ _ HT.out false (by rw [hB]; rfl)).mono ?_
        rintro e w1 ⟨rfl, hb1⟩
        go_wp2_with fail
        go_roundg (n - (k + 1))
        case measure => have := HG.out; omega
        case rel => exact ⟨k + 1, by omega, rfl, by go_num, Lib.hid (by rw [HS.out, hB]), hb.trans (hb1.mono hb.size)⟩
      | false =>
        go_wp2_with fail
        refine (HC.out ⟨ta, tb, tc⟩ _ HT.out true (by rw [hB]; rfl)).mono ?_
        rintro e w1 ⟨rfl, hb1⟩
        go_wp2_with fail
        go_ret
        exact ⟨⟨(k : Int), rfl, by omega, by rw [HNo.out hB]; exact ⟨fun _ => rfl, fun _ => by omega⟩⟩, hb.trans (hb1.mono hb.size)⟩
    · obtain rfl : k = n := by omega
      have e : l.take k = l := by rw [HN.out]; simp
      have hA := HA.out
      rw [e] at hA
      have HA2 := Lib.hid hA
      clear hA e HA
      go_wp2_with fail
      go_ret
      exact ⟨⟨-1, rfl, by omega, by rw [HA2.out]; simp⟩, hb⟩

set_option maxHeartbeats 1000000 in
theorem contains_any (T : Option Addr) (n c : Nat) (l : List Tk) (w : World) (b0 : Bool) (hT : Rd w T (tkV l)) (hn : n = l.length) (hm : l.length ≤ 100000) (hk : ∀ t ∈ l, TkN t) (h0 : (!l.all tkB) = b0) :
    Calls Tryz.prog 20 #[.slice T n c, .func (.func 21) #[] #[]] w fun e w' => e = .returned (.bool b0) ∧ Below w.heap.size w w' := by
  have HC := Lib.hid fun w hT => index_any T n c l w hT hn hm hk
  have H0 := Lib.hid h0
  have HT := Lib.hid hT
  clear h0 hn hk hm
  go_enter Tryz.func20, Tryz.ntmps20
  go_wp2_with fail
  refine (HC.out _ HT.out).mono ?_
  rintro e w1 ⟨⟨i, rfl, hi, hi2⟩, hb⟩
  have HI := Lib.hid hi2
  clear hi2
  go_wp2_with fail
  go_ret
  refine ⟨ret_bool ?_, hb⟩
  have h0 := H0.out
  have hi2 := HI.out
  cases hA : l.all tkB with
  | true =>
    rw [hA] at h0 hi2
    rw [← h0]
    have : ¬ (0 ≤ i) := fun h => by have := hi2.1 h; cases this
    simp; omega
  | false =>
    rw [hA] at h0 hi2
    rw [← h0]
    have := hi2.2 rfl
    simp; omega

/-- What is wrong with a block: of so many bytes. -/
def askK (kind rn : Nat) (l : List Tk) : Nat := if 2 < kind then 2 else if 65535 < rn ∨ 65535 < l.length then 4 else if l.all tkB = true then 0 else 8

set_option maxRecDepth 100000 in
set_option maxHeartbeats 2000000 in
theorem baskd_any (kind : Nat) (R : Option Addr) (rn rc : Nat) (T : Option Addr) (n c : Nat) (l : List Tk) (w : World) (hk0 : kind < 256) (hr : rn ≤ 65535) (hT : Rd w T (tkV l)) (hn : n = l.length) (hm : l.length ≤ 65535) (hk : ∀ t ∈ l, TkN t) :
    Calls Tryz.prog 10 #[.int .u8 (kind : Int), .slice R rn rc, .slice T n c] w fun e w' => e = .returned (.int .i64 ((askK kind rn l : Nat) : Int)) ∧ Below w.heap.size w w' := by
  have HC := Lib.hid fun w b0 hT h0 => contains_any T n c l w b0 hT hn (by omega) hk h0
  have HT := Lib.hid hT
  have hn2 : n ≤ 65535 := by omega
  have HN := Lib.hid hn
  clear hn hk hT
  by_cases h2 : 2 < kind
  · have e : askK kind rn l = 2 := by unfold askK; rw [if_pos h2]
    rw [e]
    go_enter Tryz.func10, Tryz.ntmps10
    go_wp2_with fail
    go_ret
    exact ⟨rfl, Below.refl _ _⟩
  · have e : askK kind rn l = if l.all tkB = true then 0 else 8 := by unfold askK; rw [if_neg h2, if_neg (by omega)]
    have e1 : ¬ ((rn : Int) > 65535) := by omega
    have e2 : ¬ ((n : Int) > 65535) := by omega
    rw [e]
    clear e
    cases hA : l.all tkB with
    | true =>
      go_enter Tryz.func10, Tryz.ntmps10
      go_wp2_with fail
      refine (HC.out _ false HT.out (by rw [hA]; rfl)).mono ?_
      rintro e w1 ⟨rfl, hb⟩
      go_wp2_with fail
      go_ret
      exact ⟨rfl, hb⟩
    | false =>
      go_enter Tryz.func10, Tryz.ntmps10
      go_wp2_with fail
      refine (HC.out _ true HT.out (by rw [hA]; rfl)).mono ?_
      rintro e w1 ⟨rfl, hb⟩
      go_wp2_with fail
      go_ret
      exact ⟨rfl, hb⟩
end Go.Proofs.YtfcefhaaphieeaaGreat

/-
  Walks: the symbols of tokens, handed on to a function.
-/
namespace Go.Proofs.YtfcefhaaphieeaaGreat
open Go.RowKit

theorem long_tells (n : Int) (h1 : 3 ≤ n) (h2 : n ≤ 258) (w : World) :
    Calls Tryz.prog 65 #[.int .i64 n] w fun e w' => e = .returned (.tuple #[.int .i64 ((longS n).sym : Nat), .int .i64 ((longS n).n : Nat), .int .i64 ((longS n).x : Nat), .int .i64 0]) ∧ Below w.heap.size w w' := by
  have e := (longS_ok h1 h2).2.1
  have h := Long_any n w (by omega) (by omega)
  rw [e] at h
  exact h
theorem far_tells (n : Int) (h1 : 1 ≤ n) (h2 : n ≤ 32768) (w : World) :
    Calls Tryz.prog 66 #[.int .i64 n] w fun e w' => e = .returned (.tuple #[.int .i64 ((farS n).sym : Nat), .int .i64 ((farS n).n : Nat), .int .i64 ((farS n).x : Nat), .int .i64 0]) ∧ Below w.heap.size w w' := by
  have e := (farS_ok h1 h2).2.1
  have h := Far_any n w (by omega) (by omega)
  rw [e] at h
  exact h

/-- The symbols of the first tokens. -/
def symsT (l : List Tk) (k : Nat) : List Sy := (l.take k).flatMap syT
theorem symsT_succ (l : List Tk) (k : Nat) (h : k < l.length) : symsT l (k + 1) = symsT l k ++ syT l[k] := by
  unfold symsT
  rw [List.take_succ_eq_append_getElem h, List.flatMap_append]; simp
theorem symsT_pre (l : List Tk) (k : Nat) : symsT l k ++ ((l.drop k).flatMap syT ++ [endS]) = symsL l := by
  unfold symsT symsL
  rw [← List.append_assoc, ← List.flatMap_append, List.take_append_drop]
theorem symsT_one (l : List Tk) (k : Nat) (h : k < l.length) (p q : List Sy) (e : syT l[k] = p ++ q) : (symsT l k ++ p) <+: symsL l := by
  refine ⟨q ++ ((l.drop (k + 1)).flatMap syT ++ [endS]), ?_⟩
  rw [← symsT_pre l (k + 1), symsT_succ l k h, e]
  simp [List.append_assoc]
theorem symsT_end (l : List Tk) : symsT l l.length ++ [endS] = symsL l := by
  have := symsT_pre l l.length
  simpa using this

/-- A function that a symbol is handed to. -/
def syArgs (s : Sy) : Array Value := #[.bool s.far, .int .i64 ((s.sym : Nat) : Int), .int .i64 ((s.n : Nat) : Int), .int .i64 ((s.x : Nat) : Int)]
structure SyClo (l : List Tk) (T : Option Addr) (gf : Nat) (lb : Array Value) (J : List Sy → World → Prop) : Prop where
  call : ∀ pre s W1, (pre ++ [s]) <+: symsL l → J pre W1 → Calls Tryz.prog gf (syArgs s ++ lb) W1 fun e W' => e = .returned (.tuple #[]) ∧ J (pre ++ [s]) W' ∧ W1.heap.size ≤ W'.heap.size ∧ ∀ k cs, Blk W1 k 55 cs → Blk W' k 55 cs
  keep : ∀ pre W1 W2, J pre W1 → Below W1.heap.size W1 W2 → J pre W2
  rd : ∀ pre W1, J pre W1 → Rd W1 T (tkV l)

set_option maxRecDepth 100000 in
set_option maxHeartbeats 4000000 in
theorem symbols_any (T : Option Addr) (n c : Nat) (l : List Tk) (gf : Nat) (lb : Array Value) (heg : ∀ args w, (callFunc gf args).run Tryz.prog w = .ok (.enter gf args) w) (J : List Sy → World → Prop) (w : World) (hC : SyClo l T gf lb J) (hJ : J [] w) (hn : n = l.length) (hm : l.length ≤ 100000) (hk : TksOk l) :
    Calls Tryz.prog 41 #[.slice T n c, .func (.func gf) #[] lb] w fun e w' => e = .returned (.tuple #[]) ∧ J (symsL l) w' := by
  have HK := Lib.hid hk
  have HN := Lib.hid hn
  have HC := Lib.hid hC
  have HE := Lib.hid heg
  have hn2 : n ≤ 100000 := by omega
  clear hk hn hC heg
  go_enter Tryz.func41, Tryz.ntmps41
  go_wp2_with fail
  go_loopg [12] n (fun gk v12 wr => ∃ k : Nat, k ≤ n ∧ gk = n - k ∧ v12 = .int .i64 (k : Int) ∧ Hid (J (symsT l k) wr))
  case atStart => exact ⟨0, by omega, rfl, rfl, Lib.hid (by simpa [symsT] using hJ)⟩
  case round =>
    obtain ⟨k, hk, hgk, rfl, HJ⟩ := hrel
    have HG := Lib.hid hgk
    clear hgk hJ
    by_cases hlt : k < n
    · have hkl : k < l.length := by have := HN.out; omega
      obtain ⟨b, off, rfl, c0, c1, c2⟩ := (HC.out.rd _ _ HJ.out).tk hkl
      have hlt1 := cell_lt c0
      obtain ⟨hB, hl256⟩ := HK.out _ (List.getElem_mem hkl)
      have hs := symsT_succ l k hkl
      have HP := Lib.hid (symsT_one l k hkl)
      rcases tk_cases hB hl256 with ⟨e1, e2, e3⟩ | ⟨e0, e1, a1, a2, a3, a4, e3⟩
      · rw [e3] at hs HP
        rw [e1] at c2
        rw [e2] at c1
        have HS := Lib.hid hs
        clear hs e1 e2 e3 hB
        generalize l[k] = t at *
        obtain ⟨ta, tb, tc⟩ := t
        dsimp only at *
        have HF := Lib.hid fun wx hj => HC.out.call (symsT l k) ⟨false, ta, 0, 0⟩ wx (HP.out [⟨false, ta, 0, 0⟩] [] (by simp)) hj
        go_wp2_with fail
        rw [HE.out]
        go_wp2_with fail
        refine (HF.out _ (HC.out.keep _ _ _ HJ.out ((Below.refl _ _).alloc (Nat.le_refl _) _))).mono ?_
        rintro e w1 ⟨rfl, hj, _, _⟩
        have HJ1 := Lib.hid hj
        clear hj
        go_wp2_with fail
        go_roundg (n - (k + 1))
        case measure => have := HG.out; omega
        case rel => exact ⟨k + 1, by omega, rfl, by go_num, Lib.hid (by rw [HS.out]; exact HJ1.out)⟩
      · rw [e3] at hs HP
        have HS := Lib.hid hs
        have HLg := Lib.hid fun wx => long_tells _ a1 a2 wx
        have HFr := Lib.hid fun wx => far_tells _ a3 a4 wx
        have o1 : (longS l[k].long).far = false := rfl
        have o2 : (farS l[k].dist).far = true := rfl
        clear hs e3 hB
        generalize longS l[k].long = s1 at *
        generalize farS l[k].dist = s2 at *
        generalize l[k] = t at *
        obtain ⟨ta, tb, tc⟩ := t
        obtain ⟨f1, y1, m1, x1⟩ := s1
        obtain ⟨f2, y2, m2, x2⟩ := s2
        dsimp only at *
        subst e1 o1 o2
        have HF := Lib.hid fun wx hj => HC.out.call (symsT l k) ⟨false, y1, m1, x1⟩ wx (HP.out [_] [_] rfl) hj
        have HF2 := Lib.hid fun wx hj => HC.out.call (symsT l k ++ [⟨false, y1, m1, x1⟩]) ⟨true, y2, m2, x2⟩ wx (by rw [List.append_assoc]; exact HP.out [_, _] [] rfl) hj
        go_wp2_with fail
        refine (HLg.out _).mono ?_
        rintro e w1 ⟨rfl, hb1⟩
        obtain ⟨b0, b1, b2⟩ := box1 hb1
        have HJ1 := Lib.hid (HC.out.keep _ _ _ HJ.out b0)
        go_wp2_with fail
        rw [HE.out]
        go_wp2_with fail
        refine (HF.out _ HJ1.out).mono ?_
        rintro e w2 ⟨rfl, hj, hs2, hk2⟩
        have HJ2 := Lib.hid hj
        have b3 := hk2 _ _ b2
        have hlt3 := Blk.lt b3
        have cx := Blk.cells b3
        clear hj hk2 b2
        go_wp2_with fail
        refine (HFr.out _).mono ?_
        rintro e w3 ⟨rfl, hb3⟩
        have HJ3 := Lib.hid (HC.out.keep _ _ _ HJ2.out hb3)
        go_wp2_with fail
        rw [HE.out]
        go_wp2_with fail
        refine (HF2.out _ HJ3.out).mono ?_
        rintro e w4 ⟨rfl, hj, hs4, hk4⟩
        have HJ4 := Lib.hid hj
        clear hj hk4
        go_wp2_with fail
        go_roundg (n - (k + 1))
        case measure => have := HG.out; omega
        case rel => exact ⟨k + 1, by omega, rfl, by go_num, Lib.hid (by rw [HS.out]; have := HJ4.out; rw [List.append_assoc] at this; exact this)⟩
    · obtain rfl : k = n := by omega
      have e : symsT l k = symsT l l.length := by rw [← HN.out]
      have HP := Lib.hid (symsT_end l)
      have hj := HJ.out
      rw [e] at hj
      have HJ2 := Lib.hid hj
      have HF := Lib.hid fun wx hj => HC.out.call (symsT l l.length) endS wx (by rw [HP.out]; exact List.prefix_refl _) hj
      clear hj HJ e
      go_wp2_with fail
      rw [HE.out]
      go_wp2_with fail
      refine (HF.out _ HJ2.out).mono ?_
      rintro e w1 ⟨rfl, hj, _, _⟩
      have HJ1 := Lib.hid hj
      clear hj
      go_wp2_with fail
      go_end0
      exact ⟨rfl, by rw [← HP.out]; exact HJ1.out⟩
end Go.Proofs.YtfcefhaaphieeaaGreat
