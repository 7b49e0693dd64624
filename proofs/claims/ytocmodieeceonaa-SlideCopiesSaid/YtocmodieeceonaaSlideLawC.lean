/-
  SlideCopies, walked.
-/
import Derived.Test.YtocmodieeceonaaSlideLawN
namespace Go.Proofs.Ytocmodieeceonaa
open Go.RowKit

theorem copyL_pre (D : Nat) (pre P : List Nat) (hD : 1 ≤ D) (hP : D ≤ P.length) : ∀ n, copyL (pre ++ P) D n = pre ++ copyL P D n
  | 0 => rfl
  | n + 1 => by
    have ih := copyL_pre D pre P hD hP n
    have hl := copyL_length P D n
    simp only [copyL]
    rw [ih, List.append_assoc]
    congr 2
    rw [List.length_append]
    unfold nth
    rw [List.getElem?_append_right (by omega), show pre.length + (copyL P D n).length - D - pre.length = (copyL P D n).length - D by omega]
theorem copyL_add (l : List Nat) (D k : Nat) : ∀ j, copyL (copyL l D k) D j = copyL l D (k + j)
  | 0 => rfl
  | j + 1 => by
    show _ ++ [_] = _ ++ [_]
    rw [copyL_add l D k j]
    rfl
theorem copyL_take (l : List Nat) (D : Nat) : ∀ n, (copyL l D n).take l.length = l
  | 0 => List.take_length
  | n + 1 => by
    have := copyL_length l D n
    simp only [copyL]
    rw [List.take_append_of_le_length (by omega), copyL_take l D n]
theorem copyL_split (l : List Nat) (D n : Nat) : l ++ (copyL l D n).drop l.length = copyL l D n := by
  have := List.take_append_drop l.length (copyL l D n)
  rwa [copyL_take] at this
theorem last_last' (s : Nat) (x b : List Nat) : lastL s (lastL s x ++ b) = lastL s (x ++ b) := by
  unfold lastL
  rcases Nat.lt_or_ge s x.length with h | h
  · have e1 : (List.drop (x.length - s) x ++ b).length - s = b.length := by simp only [List.length_append, List.length_drop]; omega
    have e2 : (x ++ b).length - s = (x.length - s) + b.length := by simp only [List.length_append]; omega
    rw [e1, e2, ← List.drop_drop, show (x ++ b).drop (x.length - s) = x.drop (x.length - s) ++ b from List.drop_append_of_le_length (by omega)]
  · rw [show x.length - s = 0 by omega]; rfl
theorem lastL_len (s : Nat) (l : List Nat) : (lastL s l).length = min s l.length := by simp only [lastL, List.length_drop]; omega

/-- A copy in two parts. -/
theorem copy_parts (l : List Nat) (s D k j : Nat) (hD : 1 ≤ D) (hl : D ≤ l.length) (hs : l.length ≤ s) :
    (copyL (lastL s (copyL l D k)) D j).drop (lastL s (copyL l D k)).length = ((copyL l D (k + j)).drop l.length).drop k ∧ lastL s (copyL (lastL s (copyL l D k)) D j) = lastL s (copyL l D (k + j)) ∧
    (copyL l D k).drop l.length = ((copyL l D (k + j)).drop l.length).take k := by
  have hk := copyL_length l D k
  generalize hC : copyL l D k = C at *
  have hsplit : C = C.take (C.length - s) ++ lastL s C := (List.take_append_drop _ _).symm
  have hlen := lastL_len s C
  have hDP : D ≤ (lastL s C).length := by rw [hlen]; omega
  have hpre := copyL_pre D (C.take (C.length - s)) (lastL s C) hD hDP j
  rw [← hsplit] at hpre
  have hadd := copyL_add l D k j
  rw [hC] at hadd
  have h1 := copyL_split (lastL s C) D j
  have h2 := copyL_split C D j
  have e : C.length = (C.take (C.length - s)).length + (lastL s C).length := by
    have := congrArg List.length hsplit
    rwa [List.length_append] at this
  have hb : (copyL (lastL s C) D j).drop (lastL s C).length = (copyL C D j).drop C.length := by
    clear hsplit hlen h1 h2 hadd hk hDP
    generalize C.take (C.length - s) = Q at *
    rw [hpre, e, ← List.drop_drop, List.drop_left]
  refine ⟨?_, ?_, ?_⟩
  · rw [hb, ← hadd, List.drop_drop, ← hk]
  · rw [← h1, hb, last_last', h2, hadd]
  · rw [← hadd, ← h2]
    have e3 : C.drop l.length = C.drop l.length := rfl
    rw [List.drop_append_of_le_length (by omega), List.take_append_of_le_length (by rw [List.length_drop]; omega), List.take_of_length_le (by rw [List.length_drop]; omega)]

theorem push_rd (A B : Option Addr) (c d : Nat) (l b : List Nat) (s nl nb : Nat) (w : World) (M : List Nat) (hM : lastL s (l ++ b) = M) (hnl : nl = l.length) (hnb : nb = b.length) (h : MayW s l) (hbm : b.length ≤ 131072) (hlb : ∀ x ∈ l, x < 256) (hbb : ∀ x ∈ b, x < 256) (hc : l.length ≤ c) (hl : Rd w A (u8s l)) (hb : Rd w B (u8s b)) :
    Calls Try.prog 12 #[.agg #[.int .i64 s, .slice A nl c], .slice B nb d] w fun e w' => ∃ B d, e = .returned (.tuple #[.agg #[.int .i64 (s : Int), .slice B M.length d], .int .i64 0]) ∧ Below w.heap.size w w' ∧ Rd w' B (u8s M) :=
  (push_is A B c d l b s nl nb w M hM hnl hnb h hbm hc (rd_u8 hl hlb) (fun e => List.map_eq_nil_iff.1 (hl.2 e)) (rd_u8 hb hbb) (fun e => List.map_eq_nil_iff.1 (hb.2 e))).mono fun e w' ⟨hbw, B, d, he, h1⟩ => ⟨B, d, he, hbw, own_rd h1⟩

theorem str_append (a b : List Nat) : str a ++ str b = str (a ++ b) := by
  apply ByteArray.ext
  simp [str, ByteArray.data_append]

theorem copy_rd_i (A : Option Addr) (c : Nat) (l : List Nat) (s nl dist n : Nat) (nn : Int) (w : World) (M T : List Nat) (hnn : nn = (n : Int)) (hM : lastL s (copyL l dist n) = M) (hT : (copyL l dist n).drop l.length = T) (hnl : nl = l.length) (h : MayW s l) (hn : n ≤ 258) (hd1 : 1 ≤ dist) (hd2 : dist ≤ l.length) (hb : ∀ x ∈ l, x < 256) (hl : Rd w A (u8s l)) :
    Calls Try.prog 8 #[.agg #[.int .i64 s, .slice A nl c], .int .i64 dist, .int .i64 nn] w fun e w' => ∃ B d C f, e = .returned (.tuple #[.agg #[.int .i64 (s : Int), .slice B M.length d], .slice C T.length f, .int .i64 0]) ∧ Below w.heap.size w w' ∧ Rd w' B (u8s M) ∧ Rd w' C (u8s T) ∧ M.length ≤ d := by
  subst hnn
  exact copy_rd A c l s nl dist n w M T hM hT hnl h hn hd1 hd2 hb hl

theorem elem_u8 : Elem Try.prog 22 5 1 1 := Elem.mk' Try.underlying22 (z := .int .u8 0) (by kernel_rfl) rfl (by omega)

set_option maxHeartbeats 4000000 in
set_option maxRecDepth 100000 in
theorem copies_walk (s : Int) (A : Option Addr) (l : List Nat) (c : Nat) (dist n : Int) (part : Nat) (w : World) (h1 : -9223372036854775808 ≤ s) (h2 : s ≤ 9223372036854775807) (hin : InBs w A l) (hc : l.length ≤ c) (h3 : -9223372036854775808 ≤ dist) (h4 : dist ≤ 9223372036854775807) (h5 : -9223372036854775808 ≤ n) (h6 : n ≤ 9223372036854775807) (hp : part < 256) :
    Calls Try.prog 5 #[.agg #[.int .i64 s, .slice A l.length c], .int .i64 dist, .int .i64 n, .int .u8 (part : Int)] w fun e w' => e = .returned (.bool true) ∧ Below w.heap.size w w' := by
  obtain ⟨hl, hA, hm⟩ := hin
  unfold maxLen at hm
  have hr := hl.rd hA
  have HA := Lib.hid hA; clear hA
  have HM := Lib.hid hm; clear hm
  by_cases hbig : 10000 < l.length
  · go_enter Try.func5, Try.ntmps5
    go_wp2_with fail
    refine (alive_any _).mono ?_
    rintro e w1 ⟨rfl, hb1⟩
    obtain ⟨b1, z1, k1⟩ := box1 hb1
    have c1 := Blk.cells k1
    clear hb1
    go_wp2_with fail
    go_ret
    exact ⟨rfl, b1⟩
  · by_cases h0 : copyE s l dist n = 0
    · obtain ⟨s, D, n, rfl, rfl, rfl, hmay, hn, hd1, hd2, hs2⟩ := copyE_zero h0
      have hls : l.length ≤ s := by have := hmay.2.2; omega
      obtain ⟨M, hM⟩ : ∃ M, lastL s (copyL l D n) = M := ⟨_, rfl⟩
      obtain ⟨T, hT⟩ : ∃ T, (copyL l D n).drop l.length = T := ⟨_, rfl⟩
      obtain ⟨C, hC⟩ : ∃ C, copyL l D n = C := ⟨_, rfl⟩
      have hTl : T.length = n := by rw [← hT, List.length_drop, copyL_length]; omega
      have hCl : C.length = l.length + n := by rw [← hC, copyL_length]
      have hCb : ∀ x ∈ C, x < 256 := by rw [← hC]; exact copyL_bytes hl.2 D n
      have hTb : ∀ x ∈ T, x < 256 := by rw [← hT]; exact fun x hx => copyL_bytes hl.2 D n x (List.mem_of_mem_drop hx)
      have hMb : ∀ x ∈ M, x < 256 := by rw [← hM]; exact fun x hx => copyL_bytes hl.2 D n x (List.mem_of_mem_drop hx)
      have hlT : l ++ T = C := by rw [← hT, copyL_split, hC]
      have hst : ∀ i, l.length ≤ i → i < C.length → nth C i = nth C (i - D) := fun i g1 g2 => by rw [← hC]; exact copy_stand l D hd1 hd2 n i g1 (by omega)
      have hpart : part ≤ n → lastL s (copyL l D part) = lastL s (copyL l D part) ∧ (copyL l D part).drop l.length = T.take part ∧ (copyL (lastL s (copyL l D part)) D (n - part)).drop (lastL s (copyL l D part)).length = T.drop part ∧ lastL s (copyL (lastL s (copyL l D part)) D (n - part)) = M := fun h => by
        obtain ⟨g1, g2, g3⟩ := copy_parts l s D part (n - part) hd1 hd2 hls
        rw [show part + (n - part) = n by omega, hT] at g1 g3
        rw [show part + (n - part) = n by omega, hM] at g2
        exact ⟨rfl, g3, g1, g2⟩
      have hlb := hl.2
      have HC := Lib.hid fun w hl => copy_rd A c l s l.length D n w M T hM hT rfl hmay hn (by omega) hd2 hlb hl
      have HP := Lib.hid fun (B : Option Addr) (d nb : Nat) w hnb hl' hb => push_rd A B c d l T s l.length nb w M (by rw [hlT, ← hC, hM]) rfl hnb hmay (by omega) hlb hTb hc hl' hb
      have HT := Lib.hid (And.intro hTl (And.intro hTb (And.intro hMb (And.intro hlT (And.intro hCb hst)))))
      have HU := Lib.hid (show u8s l ++ u8s T = u8s C by rw [← u8s_append, hlT])
      have HCl := Lib.hid hCl
      have hC9 : C.length ≤ 100000 := by omega
      have hTle : T.length ≤ 258 := by omega
      have hCge : l.length ≤ C.length := by omega
      obtain ⟨Ta, hTa⟩ : ∃ x, T.take part = x := ⟨_, rfl⟩
      obtain ⟨Tb, hTb'⟩ : ∃ x, T.drop part = x := ⟨_, rfl⟩
      rw [hTa, hTb'] at hpart
      have hsp : str Ta ++ str Tb = str T := by rw [str_append, ← hTa, ← hTb', List.take_append_drop]
      have HTab := Lib.hid (show (∀ x ∈ Ta, x < 256) ∧ (∀ x ∈ Tb, x < 256) by rw [← hTa, ← hTb']; exact ⟨fun x hx => hTb x (List.mem_of_mem_take hx), fun x hx => hTb x (List.mem_of_mem_drop hx)⟩)
      have hsz : ¬ 9223372036854775807 < (str Ta).size + (str Tb).size := by rw [str_size, str_size, ← hTa, ← hTb', List.length_take, List.length_drop]; omega
      clear hTa hTb'
      have hPl := lastL_len s (copyL l D part)
      have hPc := copyL_length l D part
      have hPb : ∀ x ∈ lastL s (copyL l D part), x < 256 := fun x hx => copyL_bytes hl.2 D part x (List.mem_of_mem_drop hx)
      have hPm : MayW s (lastL s (copyL l D part)) := ⟨hmay.1, hmay.2.1, by rw [hPl]; omega⟩
      have hPd : D ≤ (lastL s (copyL l D part)).length := by rw [hPl, hPc]; omega
      have HC2 := Lib.hid fun (hk : part ≤ n) w hl => copy_rd A c l s l.length D part w _ _ rfl (hpart hk).2.1 rfl hmay (by omega) (by omega) hd2 hlb hl
      have HC3 := Lib.hid fun (hk : part ≤ n) B d w (nn : Int) (hnn : nn = ((n - part : Nat) : Int)) hl => copy_rd_i B d (lastL s (copyL l D part)) s _ D (n - part) nn w M Tb hnn (hpart hk).2.2.2 (hpart hk).2.2.1 rfl hPm (by omega) (by omega) hPd hPb hl
      have hP9 : (lastL s (copyL l D part)).length ≤ 32768 := by rw [hPl]; omega
      clear hPl hPc hPb hPm hPd
      generalize lastL s (copyL l D part) = P at *
      have hne : ((T.length : Int) != (n : Int)) = false := by rw [bne_eq_false_iff_eq, HT.out.1]
      clear hTl hCl hCb hTb hMb hlT hst hM hT hC h0 hmay hpart
      by_cases hk : part ≤ n
      · skip
        go_enter Try.func5, Try.ntmps5
        go_wp2_with fail
        refine (alive_any _).mono ?_
        rintro e w1 ⟨rfl, hb1⟩
        obtain ⟨b1, z1, k1⟩ := box1 hb1
        have c1 := Blk.cells k1
        replace hr := hr.below b1
        clear hb1
        go_wp2_with fail
        refine (HC.out _ hr).mono ?_
        rintro e w2 ⟨B2, d2, A2, f2, rfl, hb2, rM, rT, _⟩
        replace b1 := b1.trans (hb2.mono b1.size)
        replace k1 := Blk.below k1 hb2 (Blk.lt k1)
        replace c1 := Blk.cells k1
        replace hr := hr.below hb2
        have y1 := Blk.lt k1
        clear hb2
        obtain ⟨W, hW⟩ : ∃ W, w2.alloc (.cells #[.int .i64 s, .slice B2 M.length d2] 24) = W := ⟨_, rfl⟩
        have bW : Below w.heap.size w W := by rw [← hW]; exact b1.alloc b1.size _
        have kW : Blk W w.heap.size 24 #[.int .i64 s, .slice A l.length c] := by rw [← hW]; exact Blk.alloc k1 _
        have kX : Blk W w2.heap.size 24 #[.int .i64 s, .slice B2 M.length d2] := by rw [← hW]; exact Blk.new _ _ _
        have rl : Rd W A (u8s l) := by rw [← hW]; exact hr.alloc _
        replace rM : Rd W B2 (u8s M) := by rw [← hW]; exact rM.alloc _
        replace rT : Rd W A2 (u8s T) := by rw [← hW]; exact rT.alloc _
        have hbox : w2.heap.size < W.heap.size := by rw [← hW]; simp
        clear hr b1 c1 k1
        have cW := Blk.cells kW
        go_wp2_with (first
          | (at_builtin; refine grow elem_u8 rfl (.const (.slice none 0 0)) (.tmp 57) rfl rfl (Builds.nil_ W _ _) rfl rl (by simp [u8s]) (u8s_one _) l.length (by omega) (u8s l) rfl (by omega) (by omega) ?_; intro A3 e3 w3 hB3 hg3; have rT3 := rT.below hB3.1)
          | (at_builtin; refine grow elem_u8 rfl (.tmp 58) (.tmp 59) rfl rfl hB3 rfl rT3 (by simp [u8s]) (u8s_one _) C.length (by have := HT.out.1; have := HCl.out; omega) (u8s C) HU.out (by omega) (by omega) ?_; intro A4 e4 w4 hB4 hg4; have kW4 := Blk.below kW hB4.1 (Blk.lt kW); have c4 := Blk.cells kW4))
        have kX4 := Blk.below kX hB4.1 (Blk.lt kX)
        have cX4 := Blk.cells kX4
        replace rl := rl.below hB4.1
        replace rM := rM.below hB4.1
        replace rT := rT.below hB4.1
        replace bW := bW.trans (hB4.1.mono bW.size)
        have rC := rd_u8 hB4.rd HT.out.2.2.2.2.1
        have y4 := Blk.lt kX4
        have y5 := Blk.lt kW4
        clear hB3 hg3 hg4 rT3 cW kW kX hW
        go_wp2_with fail
        go_loopg [14] n (fun gk v wr => ∃ i : Nat, l.length ≤ i ∧ i ≤ C.length ∧ gk = C.length - i ∧ v = .int .i64 (i : Int) ∧ ∃ q, wr = w4.drewN q)
        case atStart => exact ⟨l.length, by omega, by omega, by have := HCl.out; omega, rfl, 0, rfl⟩
        case round =>
          obtain ⟨i, hi1, hi2, hgk, rfl, q, rfl⟩ := hrel
          by_cases hlt : i < C.length
          · have hsame := HT.out.2.2.2.2.2 i hi1 hlt
            obtain ⟨b, off, rfl, hcell, hx⟩ := rC.at_ hlt
            obtain ⟨b', off', e', hcell', hx'⟩ := rC.at_ (i := i - D) (by omega)
            obtain ⟨rfl, rfl⟩ : b' = b ∧ off' = off := by injection e' with e'; injection e' with e1 e2; exact ⟨e1.symm, e2.symm⟩
            rw [← hsame] at hcell'
            have hw : IntKind.i64.wrap ((i : Int) - D) = ((i - D : Nat) : Int) := by rw [IntWalk.i64_in _ (by omega)]; omega
            have hidx : i - D < C.length := by omega
            clear e' hx' hsame
            generalize nth C i = X at *
            go_wp2_with fail
            go_quiet (fail)
            go_wp2_with fail
            go_roundg (C.length - (i + 1))
            case measure => omega
            case rel => exact ⟨i + 1, by omega, by omega, by omega, by go_num, _, rfl⟩
          · go_wp2_with fail
            refine (HP.out A2 f2 T.length _ rfl (rl.drewN q) (rT.drewN q)).mono ?_
            rintro e w5 ⟨B5, d5, rfl, hb5, r5⟩
            replace rM := (rM.drewN q).below hb5
            replace rT := (rT.drewN q).below hb5
            replace rl := (rl.drewN q).below hb5
            have kW5 := Blk.below (show Blk (w4.drewN q) _ _ _ from kW4) hb5 (Blk.lt kW4)
            have kX5 := Blk.below (show Blk (w4.drewN q) _ _ _ from kX4) hb5 (Blk.lt kX4)
            have cW5 := Blk.cells kW5
            have cX5 := Blk.cells kX5
            have yW5 := Blk.lt kW5
            have yX5 := Blk.lt kX5
            have b5 := (below_drewN' bW q).trans (hb5.mono bW.size)
            have hc1 := conv_bytes (P := Try.prog) (w5.alloc (.cells #[.int .i64 s, .slice B5 M.length d5] 24)) 22 5 Try.underlying22 Try.underlying5 9 Try.underlying9 B2 M d2 (rd_u8 (rM.alloc _) HT.out.2.2.1) (fun e => List.map_eq_nil_iff.1 (rM.2 e))
            have hc2 := conv_bytes (P := Try.prog) (w5.alloc (.cells #[.int .i64 s, .slice B5 M.length d5] 24)) 22 5 Try.underlying22 Try.underlying5 9 Try.underlying9 B5 M d5 (rd_u8 (r5.alloc _) HT.out.2.2.1) (fun e => List.map_eq_nil_iff.1 (r5.2 e))
            clear c4 cX4 hb5
            go_wp2_with fail
            refine (HC2.out hk _ ?_).mono ?_
            · exact rl.alloc _
            rintro e w6 ⟨B6, d6, A6, f6, rfl, hb6, r6, rc, _⟩
            obtain ⟨b6, z6, _⟩ := box1 hb6
            replace b5 := b5.trans (b6.mono b5.size)
            replace rM := rM.below b6
            replace rT := rT.below b6
            have kX6 := Blk.below kX5 b6 (Blk.lt kX5)
            have cX6 := Blk.cells kX6
            have yX6 := Blk.lt kX6
            clear hb6 cX5 hc1 hc2 cW5
            go_wp2_with fail
            refine (HC3.out hk B6 d6 _ _ ?_ ?_).mono ?_
            · omega
            · exact r6.alloc _
            rintro e w7 ⟨B7, d7, A7, f7, rfl, hb7, r7, rd, _⟩
            obtain ⟨b7, z7, _⟩ := box1 hb7
            replace b5 := b5.trans (b7.mono b5.size)
            replace rM := rM.below b7
            replace rT := rT.below b7
            replace rc := rc.below b7
            have kX7 := Blk.below kX6 b7 (Blk.lt kX6)
            have cX7 := Blk.cells kX7
            have yX7 := Blk.lt kX7
            have hc1 := conv_bytes (P := Try.prog) (w7.alloc (.cells #[.int .i64 s, .slice B7 M.length d7] 24)) 22 5 Try.underlying22 Try.underlying5 9 Try.underlying9 A6 Ta f6 (rd_u8 (rc.alloc _) HTab.out.1) (fun e => List.map_eq_nil_iff.1 (rc.2 e))
            have hc2 := conv_bytes (P := Try.prog) (w7.alloc (.cells #[.int .i64 s, .slice B7 M.length d7] 24)) 22 5 Try.underlying22 Try.underlying5 9 Try.underlying9 A7 Tb f7 (rd_u8 (rd.alloc _) HTab.out.2) (fun e => List.map_eq_nil_iff.1 (rd.2 e))
            have hc3 := conv_bytes (P := Try.prog) (w7.alloc (.cells #[.int .i64 s, .slice B7 M.length d7] 24)) 22 5 Try.underlying22 Try.underlying5 9 Try.underlying9 A2 T f2 (rd_u8 (rT.alloc _) HT.out.2.1) (fun e => List.map_eq_nil_iff.1 (rT.2 e))
            have hc4 := conv_bytes (P := Try.prog) (w7.alloc (.cells #[.int .i64 s, .slice B7 M.length d7] 24)) 22 5 Try.underlying22 Try.underlying5 9 Try.underlying9 B7 M d7 (rd_u8 (r7.alloc _) HT.out.2.2.1) (fun e => List.map_eq_nil_iff.1 (r7.2 e))
            have hc5 := conv_bytes (P := Try.prog) (w7.alloc (.cells #[.int .i64 s, .slice B7 M.length d7] 24)) 22 5 Try.underlying22 Try.underlying5 9 Try.underlying9 B2 M d2 (rd_u8 (rM.alloc _) HT.out.2.2.1) (fun e => List.map_eq_nil_iff.1 (rM.2 e))
            clear cX6 hb7
            go_wp2_with fail
            go_ret
            exact ⟨rfl, b5.alloc b5.size _⟩
      · skip
        go_enter Try.func5, Try.ntmps5
        go_wp2_with fail
        refine (alive_any _).mono ?_
        rintro e w1 ⟨rfl, hb1⟩
        obtain ⟨b1, z1, k1⟩ := box1 hb1
        have c1 := Blk.cells k1
        replace hr := hr.below b1
        clear hb1
        go_wp2_with fail
        refine (HC.out _ hr).mono ?_
        rintro e w2 ⟨B2, d2, A2, f2, rfl, hb2, rM, rT, _⟩
        replace b1 := b1.trans (hb2.mono b1.size)
        replace k1 := Blk.below k1 hb2 (Blk.lt k1)
        replace c1 := Blk.cells k1
        replace hr := hr.below hb2
        have y1 := Blk.lt k1
        clear hb2
        obtain ⟨W, hW⟩ : ∃ W, w2.alloc (.cells #[.int .i64 s, .slice B2 M.length d2] 24) = W := ⟨_, rfl⟩
        have bW : Below w.heap.size w W := by rw [← hW]; exact b1.alloc b1.size _
        have kW : Blk W w.heap.size 24 #[.int .i64 s, .slice A l.length c] := by rw [← hW]; exact Blk.alloc k1 _
        have kX : Blk W w2.heap.size 24 #[.int .i64 s, .slice B2 M.length d2] := by rw [← hW]; exact Blk.new _ _ _
        have rl : Rd W A (u8s l) := by rw [← hW]; exact hr.alloc _
        replace rM : Rd W B2 (u8s M) := by rw [← hW]; exact rM.alloc _
        replace rT : Rd W A2 (u8s T) := by rw [← hW]; exact rT.alloc _
        have hbox : w2.heap.size < W.heap.size := by rw [← hW]; simp
        clear hr b1 c1 k1
        have cW := Blk.cells kW
        go_wp2_with (first
          | (at_builtin; refine grow elem_u8 rfl (.const (.slice none 0 0)) (.tmp 57) rfl rfl (Builds.nil_ W _ _) rfl rl (by simp [u8s]) (u8s_one _) l.length (by omega) (u8s l) rfl (by omega) (by omega) ?_; intro A3 e3 w3 hB3 hg3; have rT3 := rT.below hB3.1)
          | (at_builtin; refine grow elem_u8 rfl (.tmp 58) (.tmp 59) rfl rfl hB3 rfl rT3 (by simp [u8s]) (u8s_one _) C.length (by have := HT.out.1; have := HCl.out; omega) (u8s C) HU.out (by omega) (by omega) ?_; intro A4 e4 w4 hB4 hg4; have kW4 := Blk.below kW hB4.1 (Blk.lt kW); have c4 := Blk.cells kW4))
        have kX4 := Blk.below kX hB4.1 (Blk.lt kX)
        have cX4 := Blk.cells kX4
        replace rl := rl.below hB4.1
        replace rM := rM.below hB4.1
        replace rT := rT.below hB4.1
        replace bW := bW.trans (hB4.1.mono bW.size)
        have rC := rd_u8 hB4.rd HT.out.2.2.2.2.1
        have y4 := Blk.lt kX4
        have y5 := Blk.lt kW4
        clear hB3 hg3 hg4 rT3 cW kW kX hW
        go_wp2_with fail
        go_loopg [14] n (fun gk v wr => ∃ i : Nat, l.length ≤ i ∧ i ≤ C.length ∧ gk = C.length - i ∧ v = .int .i64 (i : Int) ∧ ∃ q, wr = w4.drewN q)
        case atStart => exact ⟨l.length, by omega, by omega, by have := HCl.out; omega, rfl, 0, rfl⟩
        case round =>
          obtain ⟨i, hi1, hi2, hgk, rfl, q, rfl⟩ := hrel
          by_cases hlt : i < C.length
          · have hsame := HT.out.2.2.2.2.2 i hi1 hlt
            obtain ⟨b, off, rfl, hcell, hx⟩ := rC.at_ hlt
            obtain ⟨b', off', e', hcell', hx'⟩ := rC.at_ (i := i - D) (by omega)
            obtain ⟨rfl, rfl⟩ : b' = b ∧ off' = off := by injection e' with e'; injection e' with e1 e2; exact ⟨e1.symm, e2.symm⟩
            rw [← hsame] at hcell'
            have hw : IntKind.i64.wrap ((i : Int) - D) = ((i - D : Nat) : Int) := by rw [IntWalk.i64_in _ (by omega)]; omega
            have hidx : i - D < C.length := by omega
            clear e' hx' hsame
            generalize nth C i = X at *
            go_wp2_with fail
            go_quiet (fail)
            go_wp2_with fail
            go_roundg (C.length - (i + 1))
            case measure => omega
            case rel => exact ⟨i + 1, by omega, by omega, by omega, by go_num, _, rfl⟩
          · go_wp2_with fail
            refine (HP.out A2 f2 T.length _ rfl (rl.drewN q) (rT.drewN q)).mono ?_
            rintro e w5 ⟨B5, d5, rfl, hb5, r5⟩
            replace rM := (rM.drewN q).below hb5
            replace rT := (rT.drewN q).below hb5
            replace rl := (rl.drewN q).below hb5
            have kW5 := Blk.below (show Blk (w4.drewN q) _ _ _ from kW4) hb5 (Blk.lt kW4)
            have kX5 := Blk.below (show Blk (w4.drewN q) _ _ _ from kX4) hb5 (Blk.lt kX4)
            have cW5 := Blk.cells kW5
            have cX5 := Blk.cells kX5
            have yW5 := Blk.lt kW5
            have yX5 := Blk.lt kX5
            have b5 := (below_drewN' bW q).trans (hb5.mono bW.size)
            have hc1 := conv_bytes (P := Try.prog) (w5.alloc (.cells #[.int .i64 s, .slice B5 M.length d5] 24)) 22 5 Try.underlying22 Try.underlying5 9 Try.underlying9 B2 M d2 (rd_u8 (rM.alloc _) HT.out.2.2.1) (fun e => List.map_eq_nil_iff.1 (rM.2 e))
            have hc2 := conv_bytes (P := Try.prog) (w5.alloc (.cells #[.int .i64 s, .slice B5 M.length d5] 24)) 22 5 Try.underlying22 Try.underlying5 9 Try.underlying9 B5 M d5 (rd_u8 (r5.alloc _) HT.out.2.2.1) (fun e => List.map_eq_nil_iff.1 (r5.2 e))
            clear c4 cX4 hb5
            go_wp2_with fail
            go_ret
            exact ⟨rfl, b5.alloc b5.size _⟩
    · have HP := Lib.hid fun w => copy_nay A c l s dist n l.length w _ rfl h0 rfl (by omega) h1 h2
      have he : ((copyE s l dist n : Int) != 0) = true := by rw [bne_iff_ne]; omega
      generalize copyE s l dist n = E at *
      go_enter Try.func5, Try.ntmps5
      go_wp2_with fail
      refine (alive_any _).mono ?_
      rintro e w1 ⟨rfl, hb1⟩
      obtain ⟨b1, z1, k1⟩ := box1 hb1
      have c1 := Blk.cells k1
      clear hb1
      go_wp2_with fail
      refine (HP.out _).mono ?_
      rintro e w2 ⟨A2, d2, A3, d3, rfl, hb2⟩
      have b2 := b1.trans (hb2.mono b1.size)
      clear c1 hb2
      go_wp2_with fail
      go_ret
      exact ⟨rfl, b2.alloc b2.size _⟩
end Go.Proofs.Ytocmodieeceonaa
