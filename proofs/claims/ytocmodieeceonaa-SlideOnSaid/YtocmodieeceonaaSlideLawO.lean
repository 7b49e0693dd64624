/-
  SlideOn, walked.
-/
import Derived.Test.YtocmodieeceonaaSlideLawS
namespace Go.Proofs.Ytocmodieeceonaa
open Go.RowKit

theorem last_last (s : Nat) (x b : List Nat) : lastL s (lastL s x ++ b) = lastL s (x ++ b) := by
  unfold lastL
  rcases Nat.lt_or_ge s x.length with h | h
  · have e1 : (List.drop (x.length - s) x ++ b).length - s = b.length := by simp only [List.length_append, List.length_drop]; omega
    have e2 : (x ++ b).length - s = (x.length - s) + b.length := by simp only [List.length_append]; omega
    rw [e1, e2, ← List.drop_drop, show (x ++ b).drop (x.length - s) = x.drop (x.length - s) ++ b from List.drop_append_of_le_length (by omega)]
  · rw [show x.length - s = 0 by omega]; rfl

theorem push_bad_is (A B : Option Addr) (c d : Nat) (l b : List Nat) (s : Int) (nl nb : Nat) (w : World) (hnl : nl = l.length) (hnb : nb = b.length) (hm : l.length ≤ 1000000000) (h1 : -9223372036854775808 ≤ s) (h2 : s ≤ 9223372036854775807) (h : ¬ MayW s l) :
    Calls Try.prog 12 #[.agg #[.int .i64 s, .slice A nl c], .slice B nb d] w fun e w' => WinRes w w' e 0 [] 8 := by
  subst hnl hnb; exact push_bad A B c d l b s w hm h1 h2 h

set_option maxHeartbeats 2000000 in
set_option maxRecDepth 100000 in
theorem on_walk (s : Int) (A : Option Addr) (l : List Nat) (c : Nat) (B : Option Addr) (a : List Nat) (cb : Nat) (C : Option Addr) (b : List Nat) (cc : Nat) (w : World) (h1 : -9223372036854775808 ≤ s) (h2 : s ≤ 9223372036854775807) (hin : InBs w A l) (hc : l.length ≤ c) (hinb : InBs w B a) (hinc : InBs w C b) :
    Calls Try.prog 4 #[.agg #[.int .i64 s, .slice A l.length c], .slice B a.length cb, .slice C b.length cc] w fun e w' => e = .returned (.bool true) ∧ Below w.heap.size w w' := by
  obtain ⟨i0, hi0, hz0, hz1, hz2⟩ := info_parts info_u8
  obtain ⟨hl, hA, hm⟩ := hin
  obtain ⟨hlb, hB, hmb⟩ := hinb
  obtain ⟨hlc, hC, hmc⟩ := hinc
  unfold maxLen at hm hmb hmc
  have hA0 : A = none → l.length = 0 := fun h => by rw [hA h]; rfl
  have hB0 : B = none → a.length = 0 := fun h => by rw [hB h]; rfl
  have hC0 : C = none → b.length = 0 := fun h => by rw [hC h]; rfl
  have HA := Lib.hid (And.intro hA (And.intro hB hC)); have HN := Lib.hid (And.intro hA0 (And.intro hB0 hC0)); clear hA hB hC hA0 hB0 hC0
  have HM := Lib.hid (And.intro hm (And.intro hmb hmc)); clear hm hmb hmc
  by_cases hbig : 10000 < l.length ∨ 10000 < a.length ∨ 10000 < b.length
  · go_enter Try.func4, Try.ntmps4
    go_wp2_with fail
    refine (alive_any _).mono ?_
    rintro e w1 ⟨rfl, hb1⟩
    obtain ⟨b1, z1, k1⟩ := box1 hb1
    have c1 := Blk.cells k1
    clear hb1
    have q : 10000 < l.length ∨ (¬ 10000 < l.length ∧ 10000 < a.length) ∨ (¬ 10000 < l.length ∧ ¬ 10000 < a.length ∧ 10000 < b.length) := by omega
    rcases q with q | ⟨q1, q2⟩ | ⟨q1, q2, q3⟩
    all_goals (go_wp2_with fail; go_ret; exact ⟨rfl, b1⟩)
  · obtain ⟨hl1, ha1, hb1⟩ : l.length ≤ 10000 ∧ a.length ≤ 10000 ∧ b.length ≤ 10000 := by omega
    clear hbig
    by_cases hmay : MayW s l
    · obtain ⟨S, rfl⟩ := Int.eq_ofNat_of_zero_le (show 0 ≤ s by have := hmay.1; omega)
      obtain ⟨m1, m2, m3⟩ := id hmay
      obtain ⟨L, hL⟩ : ∃ L, a ++ b = L := ⟨_, rfl⟩
      have hLl : a.length + b.length = L.length := by rw [← hL]; simp
      have hLb : ∀ x ∈ L, x < 256 := by rw [← hL]; exact fun x hx => (List.mem_append.1 hx).elim (hlb.2 x) (hlc.2 x)
      obtain ⟨M, hM⟩ : ∃ M, lastL S (l ++ L) = M := ⟨_, rfl⟩
      obtain ⟨Y, hY⟩ : ∃ Y, lastL S (l ++ a) = Y := ⟨_, rfl⟩
      have hMl : M.length ≤ S := by rw [← hM]; simp only [lastL, List.length_drop]; omega
      have hYl : Y.length ≤ S := by rw [← hY]; simp only [lastL, List.length_drop]; omega
      have hMb : ∀ x ∈ M, x < 256 := by rw [← hM]; exact fun x hx => (List.mem_append.1 (List.mem_of_mem_drop hx)).elim (hl.2 x) (hLb x)
      have hYb : ∀ x ∈ Y, x < 256 := by rw [← hY]; exact fun x hx => (List.mem_append.1 (List.mem_of_mem_drop hx)).elim (hl.2 x) (hlb.2 x)
      have hYM : lastL S (Y ++ b) = M := by rw [← hY, last_last, List.append_assoc, hL, hM]
      have HX := Lib.hid fun (B : Option Addr) (d nb : Nat) w (hnb : nb = L.length) hl hb hB => push_is A B c d l L S l.length nb w M hM rfl hnb hmay (by omega) hc hl HA.out.1 hb hB
      have HY := Lib.hid fun w hl hb => push_is A B c cb l a S l.length a.length w Y hY rfl rfl hmay (by omega) hc hl HA.out.1 hb HA.out.2.1
      have HZ := Lib.hid fun (A : Option Addr) (c : Nat) w hc hl hA hb => push_is A C c cc Y b S Y.length b.length w M hYM rfl rfl ⟨m1, m2, by omega⟩ (by omega) hc hl hA hb HA.out.2.2
      have HC := Lib.hid fun (A : Option Addr) (c : Nat) w => check_yes A c M S w (by omega) (by omega) hMl
      have HL := Lib.hid (And.intro hL (And.intro hLl (And.intro hLb (And.intro hM (And.intro hMb hYb)))))
      obtain ⟨T, hT⟩ : ∃ T, l.length + (a.length + b.length) = T := ⟨_, rfl⟩
      have hT9 : T ≤ 30000 := by omega
      have hTl : (l ++ L).length = T := by rw [List.length_append, ← hLl, hT]
      have hMT : M.length = T - (T - S) := by rw [← hM]; simp only [lastL, List.length_drop, hTl]
      have hMd : M = (l ++ L).drop (T - S) := by rw [← hM, lastL, hTl]
      have HT := Lib.hid (And.intro hT (And.intro hTl (And.intro hMT hMd)))
      clear hT hTl hMT hMd
      have hM9 : M.length ≤ 32768 := by omega
      have hY9 : Y.length ≤ 32768 := by omega
      clear hL hLl hLb hM hY hYM hMb hYb hmay hYl
      go_enter Try.func4, Try.ntmps4
      go_wp2_with fail
      refine (alive_any _).mono ?_
      rintro e w1 ⟨rfl, hb1⟩
      obtain ⟨b1, z1, k1⟩ := box1 hb1
      have c1 := Blk.cells k1
      have lb := hlb.below b1
      have lc := hlc.below b1
      clear hb1
      go_wp2_with (first
        | (at_builtin; refine wpList_app _ rfl (.const (.slice none 0 0)) (.tmp 36) _ rfl w.heap.size 5 i0 _ 1 1 Try.underlying22 hi0 hz0 hz1 hz2 rfl (by omega) (.slice none 0 0) 0 [] rfl (World.ownsRow_nil _ _ _ _) B a.length cb (u8s a) rfl (by simp [u8s]) lb.1 HN.out.2.1 (u8s_one _) a.length (by omega) (u8s a) rfl (by simp only [maxLen]; omega) (by omega) b1.size ?_; intro A1 e1 w2 hown1 hg1 hat1; have k2 : Blk w2 w.heap.size 24 #[.int .i64 S, .slice A l.length c] := Blk.grown k1 hg1 (by simp [Value.ownBlock]); have b2 : Below w.heap.size w w2 := b1.grown hg1 b1.size (by simp [Value.ownBlock]))
        | (at_builtin; refine wpList_app _ rfl (.tmp 37) (.tmp 38) _ rfl w.heap.size 5 i0 _ 1 1 Try.underlying22 hi0 hz0 hz1 hz2 rfl (by omega) (.slice A1 a.length e1) a.length (u8s a) rfl hown1 C b.length cc (u8s b) rfl (by simp [u8s]) (hlc.below b2).1 HN.out.2.2 (u8s_one _) (a.length + b.length) rfl (u8s (a ++ b)) (u8s_append _ _) (by simp only [maxLen]; omega) (by omega) b2.size ?_; intro A2 e2 w3 hown2 hg2 hat2; have ne2 := own_blk_ne hown1 k2 (by decide); have k3 : Blk w3 w.heap.size 24 #[.int .i64 S, .slice A l.length c] := Blk.grown k2 hg2 (Ne.symm ne2); have b3 : Below w.heap.size w w3 := b2.grown hg2 b2.size (own_row_ge hown1); have c3 := Blk.cells k3; clear c1))
      have x3 : Bs w3 A2 L := Bs.of_own (by rw [← HL.out.1]; exact hown2) HL.out.2.2.1
      have n3 : A2 = none → L = [] := by rw [← HL.out.1]; exact own_nil hown2
      have N3 := Lib.hid n3
      have l3 := hl.below b3
      have lb3 := hlb.below b3
      have lc3 := hlc.below b3
      clear hown1 hg1 hat1 hat2 lb lc hown2 hg2 n3
      go_wp2_with fail
      refine (HX.out A2 e2 (a.length + b.length) _ HL.out.2.1 l3 x3 N3.out).mono ?_
      rintro e w4 ⟨hb4, A4, d4, rfl, hown4⟩
      have b4 := b3.trans (hb4.mono b3.size)
      have k4 := Blk.below k3 hb4 (Blk.lt k3)
      have c4 := Blk.cells k4
      have z4 := Blk.lt k4
      have l4 := l3.below hb4
      have lb4 := lb3.below hb4
      have lc4 := lc3.below hb4
      have x4 := x3.below hb4
      have m4 : Bs w4 A4 M := Bs.of_own hown4 HL.out.2.2.2.2.1
      have N4 := Lib.hid (own_nil hown4)
      clear hb4 hown4 c3 l3 lb3 lc3 x3
      go_wp2_with fail
      refine (HY.out _ (l4.alloc _) (lb4.alloc _)).mono ?_
      rintro e w5 ⟨hb5, A5, d5, rfl, hown5⟩
      obtain ⟨b5, z5, k5⟩ := box1 hb5
      have b6 := b4.trans (b5.mono b4.size)
      have k6 := Blk.below (Blk.alloc k4 _) hb5 (by simp; omega)
      have c5 := Blk.cells k5
      have c6 := Blk.cells k6
      have z6 := Blk.lt k6
      have l5 := l4.below b5
      have lc5 := lc4.below b5
      have x5 := x4.below b5
      have m5 := m4.below b5
      have y5 : Bs w5 A5 Y := Bs.of_own hown5 HL.out.2.2.2.2.2
      have N5 := Lib.hid (own_nil hown5)
      have hcap5 := own_cap hown5
      clear hb5 hown5 c4 l4 lb4 lc4 x4 m4
      go_wp2_with fail
      refine (HZ.out A5 d5 _ hcap5 (y5.alloc _) N5.out (lc5.alloc _)).mono ?_
      rintro e w6 ⟨hb6, A6, d6, rfl, hown6⟩
      obtain ⟨b7, z7, k7⟩ := box1 hb6
      have b8 := b6.trans (b7.mono b6.size)
      have k8 := Blk.below (Blk.alloc k6 (.cells #[.int .i64 S, .slice A5 Y.length d5] 24)) hb6 (by simp; omega)
      have k9 := Blk.below (Blk.alloc k5 (.cells #[.int .i64 S, .slice A5 Y.length d5] 24)) hb6 (by simp; omega)
      have c7 := Blk.cells k7
      have c8 := Blk.cells k8
      have c9 := Blk.cells k9
      have z8 := Blk.lt k8
      have z9 := Blk.lt k9
      have l6 := l5.below b7
      have x6 := x5.below b7
      have m6 := m5.below b7
      have mz : Bs w6 A6 M := Bs.of_own hown6 HL.out.2.2.2.2.1
      have hc1 := conv_bytes (P := Try.prog) _ 22 5 Try.underlying22 Try.underlying5 9 Try.underlying9 A6 M d6 (mz.alloc (.cells #[.int .i64 S, .slice A6 M.length d6] 24)) (own_nil hown6)
      have hc2 := conv_bytes (P := Try.prog) _ 22 5 Try.underlying22 Try.underlying5 9 Try.underlying9 A4 M d4 (m6.alloc (.cells #[.int .i64 S, .slice A6 M.length d6] 24)) N4.out
      clear hb6 hown6 c5 c6 l5 lc5 x5 m5 y5 mz
      go_wp2_with fail
      refine (HC.out A4 d4 _).mono ?_
      rintro e w10 ⟨rfl, hb10⟩
      obtain ⟨b10, z10, k10⟩ := box1 hb10
      have b11 := b8.trans (b10.mono b8.size)
      have k11 := Blk.below (Blk.alloc k8 (.cells #[.int .i64 S, .slice A6 M.length d6] 24)) hb10 (by simp; omega)
      have k12 := Blk.below (Blk.alloc k9 (.cells #[.int .i64 S, .slice A6 M.length d6] 24)) hb10 (by simp; omega)
      have c11 := Blk.cells k11
      have l10 := l6.below b10
      have x10 := x6.below b10
      have m10 := m6.below b10
      clear hb10 c7 c8 c9 l6 x6 m6 hc1 hc2
      have N10 := Lib.hid (And.intro l10 (And.intro x10 m10))
      clear l10 x10 m10
      go_wp2_with (first
        | (at_builtin; refine wpList_app _ rfl (.const (.slice none 0 0)) (.tmp 100) _ rfl w10.heap.size 5 i0 _ 1 1 Try.underlying22 hi0 hz0 hz1 hz2 rfl (by omega) (.slice none 0 0) 0 [] rfl (World.ownsRow_nil _ _ _ _) A l.length c (u8s l) rfl (by simp [u8s]) N10.out.1.1 HN.out.1 (u8s_one _) l.length (by omega) (u8s l) rfl (by simp only [maxLen]; omega) (by omega) (Nat.le_refl _) ?_; intro A8 e8 w8 hown8 hg8 hat8; have b12 : Below w10.heap.size w10 w8 := (Below.refl _ _).grown hg8 (Nat.le_refl _) (by simp [Value.ownBlock]); have c12 := Blk.cells (Blk.below k11 b12 (Blk.lt k11)))
        | (at_builtin; refine wpList_app _ rfl (.tmp 101) (.tmp 102) _ rfl w10.heap.size 5 i0 _ 1 1 Try.underlying22 hi0 hz0 hz1 hz2 rfl (by omega) (.slice A8 l.length e8) l.length (u8s l) rfl hown8 A2 (a.length + b.length) e2 (u8s L) rfl (by rw [u8s_length, HL.out.2.1]; omega) (N10.out.2.1.below b12).1 (fun h => by have := N3.out h; have := HL.out.2.1; simp_all) (u8s_one _) T HT.out.1.symm (u8s (l ++ L)) (u8s_append _ _) (by have := HT.out.1; simp only [maxLen]; omega) (by have := HT.out.1; omega) b12.size ?_; intro A9 e9 w9 hown9 hg9 hat9; have b13 : Below w10.heap.size w10 w9 := b12.grown hg9 b12.size (own_row_ge hown8); have k15 := Blk.below k11 b13 (Blk.lt k11); have k16 := Blk.below k12 b13 (Blk.lt k12); have c15 := Blk.cells k15; have c16 := Blk.cells k16; clear c12))
      have hcx := conv_bytes (P := Try.prog) w9.drew 22 5 Try.underlying22 Try.underlying5 9 Try.underlying9 A4 M d4 (N10.out.2.2.below b13.drew) N4.out
      have hcap9 := own_cap hown9
      have hb9 : Bs w9 A9 (l ++ L) := Bs.of_own hown9 (fun x hx => (List.mem_append.1 hx).elim (hl.2 x) (HL.out.2.2.1 x))
      have n9 : A9 = none → l ++ L = [] := own_nil hown9
      have b14 := b11.trans (b13.mono b11.size)
      rcases Nat.lt_or_ge S T with hlt | hge
      · obtain ⟨g, rfl, hg⟩ := own_at hown9 (by omega)
        have hx9 := hb9.drop (T - S)
        rw [← HT.out.2.2.2] at hx9
        have hx10 : Bs w9.drew (some ⟨g, T - S, none⟩) M := by simp only [Option.map_some, add_plain, Nat.zero_add] at hx9; exact hx9
        have hcy := conv_bytes (P := Try.prog) w9.drew 22 5 Try.underlying22 Try.underlying5 9 Try.underlying9 (some ⟨g, T - S, none⟩) M (e9 - (T - S)) hx10 (fun h => by cases h)
        have hMT := HT.out.2.2.1.symm
        have hw : IntKind.i64.wrap ((T : Int) - S) = ((T - S : Nat) : Int) := by rw [IntWalk.i64_in _ (by omega)]; omega
        have hne : ¬ e9 = T - S := by omega
        have hTT : T - S ≤ T := by omega
        clear hx9 hx10 hb9 n9 hown9 hown8 hg8 hat8 hg9 hat9 hMl
        go_wp2_with fail
        go_region
        go_wp2_with fail
        go_ret
        exact ⟨rfl, below_drewN b14 _⟩
      · have h0 : T - S = 0 := by omega
        have hMe : M = l ++ L := by rw [HT.out.2.2.2, h0]; rfl
        have hMT : M.length = T := by rw [hMe]; exact HT.out.2.1
        rw [← hMe] at hb9 n9
        have hcy := conv_bytes (P := Try.prog) w9.drew 22 5 Try.underlying22 Try.underlying5 9 Try.underlying9 A9 M e9 (by exact hb9) n9
        rw [hMT] at hcy hcx
        have hw : IntKind.i64.wrap ((T : Int) - S) = (T : Int) - S := IntWalk.i64_in _ (by omega)
        clear hb9 n9 hown9 hown8 hg8 hat8 hg9 hat9 hMl h0 hMe
        go_wp2_with fail
        go_region
        go_wp2_with fail
        go_ret
        exact ⟨rfl, below_drewN b14 _⟩
    · have PX := Lib.hid fun (B : Option Addr) (d nb : Nat) (b : List Nat) w (hnb : nb = b.length) => push_bad_is A B c d l b s l.length nb w rfl hnb (by omega) h1 h2 hmay
      have PC := Lib.hid fun w => check_no A c l s w (by omega) h1 h2 hmay
      clear hmay
      go_enter Try.func4, Try.ntmps4
      go_wp2_with fail
      refine (alive_any _).mono ?_
      rintro e w1 ⟨rfl, hb1⟩
      obtain ⟨b1, z1, k1⟩ := box1 hb1
      have c1 := Blk.cells k1
      have lb := hlb.below b1
      have lc := hlc.below b1
      clear hb1
      go_wp2_with (first
        | (at_builtin; refine wpList_app _ rfl (.const (.slice none 0 0)) (.tmp 36) _ rfl w.heap.size 5 i0 _ 1 1 Try.underlying22 hi0 hz0 hz1 hz2 rfl (by omega) (.slice none 0 0) 0 [] rfl (World.ownsRow_nil _ _ _ _) B a.length cb (u8s a) rfl (by simp [u8s]) lb.1 HN.out.2.1 (u8s_one _) a.length (by omega) (u8s a) rfl (by simp only [maxLen]; omega) (by omega) b1.size ?_; intro A1 e1 w2 hown1 hg1 hat1; have k2 : Blk w2 w.heap.size 24 #[.int .i64 s, .slice A l.length c] := Blk.grown k1 hg1 (by simp [Value.ownBlock]); have b2 : Below w.heap.size w w2 := b1.grown hg1 b1.size (by simp [Value.ownBlock]))
        | (at_builtin; refine wpList_app _ rfl (.tmp 37) (.tmp 38) _ rfl w.heap.size 5 i0 _ 1 1 Try.underlying22 hi0 hz0 hz1 hz2 rfl (by omega) (.slice A1 a.length e1) a.length (u8s a) rfl hown1 C b.length cc (u8s b) rfl (by simp [u8s]) (hlc.below b2).1 HN.out.2.2 (u8s_one _) (a.length + b.length) rfl (u8s (a ++ b)) (u8s_append _ _) (by simp only [maxLen]; omega) (by omega) b2.size ?_; intro A2 e2 w3 hown2 hg2 hat2; have ne2 := own_blk_ne hown1 k2 (by decide); have k3 : Blk w3 w.heap.size 24 #[.int .i64 s, .slice A l.length c] := Blk.grown k2 hg2 (Ne.symm ne2); have b3 : Below w.heap.size w w3 := b2.grown hg2 b2.size (own_row_ge hown1); have c3 := Blk.cells k3; clear c1))
      have L1 := hown2.1
      have HL := Lib.hid hown2
      clear hown1 hg1 hat1 hat2 lb lc
      go_wp2_with fail
      refine (PX.out A2 e2 (a.length + b.length) (a ++ b) _ (by simp)).mono ?_
      rintro e w4 ⟨hb4, A4, d4, rfl, hown4⟩
      have b4 := b3.trans (hb4.mono b3.size)
      have k4 := Blk.below k3 hb4 (Blk.lt k3)
      have c4 := Blk.cells k4
      have z4 := Blk.lt k4
      clear hb4 hown4 c3
      go_wp2_with fail
      refine (PX.out B cb a.length a _ rfl).mono ?_
      rintro e w5 ⟨hb5, A5, d5, rfl, hown5⟩
      obtain ⟨b5, z5, k5⟩ := box1 hb5
      have b6 := b4.trans (b5.mono b4.size)
      have k6 := Blk.below (Blk.alloc k4 _) hb5 (by simp; omega)
      have c6 := Blk.cells k6
      have z6 := Blk.lt k6
      clear hb5 hown5 c4
      go_wp2_with fail
      refine (PC.out _).mono ?_
      rintro e w7 ⟨rfl, hb7⟩
      obtain ⟨b7, z7, k7⟩ := box1 hb7
      go_wp2_with fail
      go_ret
      exact ⟨rfl, b6.trans (b7.mono b6.size)⟩
end Go.Proofs.Ytocmodieeceonaa
