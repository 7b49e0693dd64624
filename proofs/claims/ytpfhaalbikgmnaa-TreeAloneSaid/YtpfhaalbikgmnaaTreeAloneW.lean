/-
  Walks: the law TreeAlone.
-/
import Derived.Test.YtpfhaalbikgmnaaTreeFullW
namespace Go.Proofs.Ytpfhaalbikgmnaa
open Go.RowKit

theorem Builds.bel {W w : World} {e : TypeId} {size n c : Nat} {A : Option Addr} {xs : List Value} (h : Builds W w e size A n c xs) : Below W.heap.size W w := h.1

set_option maxRecDepth 100000 in
set_option maxHeartbeats 4000000 in
theorem law_alone' (f : Nat → Int) (B : Option Addr) (xs : List Int) (cb : Nat) (A : Option Addr) (b : List Nat) (c : Nat) (a : Int) (D : Option Addr) (m : List Nat) (d : Nat) (w : World) (nb nx nm : Nat) (hnb : nb = b.length) (hnx : nx = xs.length) (hnm : nm = m.length)
    (hB : Rd w B (ints xs)) (hbc : nx ≤ cb) (hbm : nx ≤ maxLen) (hl : Bs w A b) (hA : A = none → b = []) (hm : nb ≤ maxLen) (h1 : -9223372036854775808 ≤ a) (h2 : a ≤ 9223372036854775807) (hlm : Bs w D m) (hD : D = none → m = []) (hmm : nm ≤ maxLen) :
    Calls Try.prog 7 #[.agg (cellsOf 17 (treeH f (.slice B nx cb))), .slice A nb c, .int .i64 a, .slice D nm d] w fun e w' => e = .returned (.bool true) ∧ Below w.heap.size w w' := by
  unfold maxLen at hm hbm hmm
  have HN := Lib.hid (And.intro hnb (And.intro hnx hnm))
  have HA := Lib.hid (And.intro hA hD)
  have k3 : Arr (w.alloc (.cells (cellsOf 17 (treeH f (.slice B nx cb))) 26)) w.heap.size 26 17 (treeH f (.slice B nx cb)) := Blk.new _ _ _
  have hb0 : Below w.heap.size w (w.alloc (.cells (cellsOf 17 (treeH f (.slice B nx cb))) 26)) := (Below.refl _ _).alloc (Nat.le_refl _) _
  have MK := Lib.hid (fun (W1 : World) (ka : Arr W1 w.heap.size 26 17 (treeH f (.slice B nx cb))) => (Arr.cell ka 16 (by omega)).trans (congrArg some treeH_16))
  have HV := Lib.hid tree_alive_any
  clear hnb hnx hnm hA hD
  by_cases hbig : 1000 < nx ∨ 1000 < nb ∨ 1000 < nm
  · have hcases : 1000 < nx ∨ (¬ 1000 < nx ∧ 1000 < nb) ∨ (¬ 1000 < nx ∧ ¬ 1000 < nb ∧ 1000 < nm) := by omega
    clear hbig
    rcases hcases with hq | ⟨hp, hq⟩ | ⟨hp, hp2, hq⟩
    all_goals
      go_enter Try.func7, Try.ntmps7
      go_upto_region 1 with (fail)
      change Code.wp _ _ _ _ (w.alloc (.cells (cellsOf 17 (treeH f (.slice B nx cb))) 26))
      generalize w.alloc (.cells (cellsOf 17 (treeH f (.slice B nx cb))) 26) = W0 at *
      go_wp2_with (go_at_call 19; refine (HV.out _).mono ?_; rintro e W1 ⟨rfl, b1⟩; have hb1 := hb0.trans (b1.mono hb0.size); have c16 := MK.out W1 (Arr.below k3 b1 (Blk.lt k3)))
      go_ret
      exact ⟨rfl, hb1⟩
  · have g1 : nx ≤ 1000 := by omega
    have g2 : nb ≤ 1000 := by omega
    have g3 : nm ≤ 1000 := by omega
    have d1 : decide ((1000 : Int) < (nx : Int)) = false := decide_eq_false (by omega)
    have d2 : decide ((1000 : Int) < (nb : Int)) = false := decide_eq_false (by omega)
    have d3 : decide ((1000 : Int) < (nm : Int)) = false := decide_eq_false (by omega)
    clear hbig
    have HX := Lib.hid (fun wx A c (b : List Nat) nb (hnb : nb = b.length) (hn2 : nb ≤ 3000) (hr1 : Rd wx B (ints xs)) (h : Bs wx A b) => show Calls Try.prog 20 #[.agg (cellsOf 17 (treeH f (.slice B nx cb))), .slice A nb c, .int .i64 a] wx (fun e w' => ReadRes wx w' e (nxT f xs b a)) from tnext_any f B A nx cb nb c xs b a wx hr1 HN.out.2.1 hbc (by omega) h hnb (by omega) h1 h2)
    have happ := nx_app f xs b m a
    go_enter Try.func7, Try.ntmps7
    go_upto_region 1 with (fail)
    change Code.wp _ _ _ _ (w.alloc (.cells (cellsOf 17 (treeH f (.slice B nx cb))) 26))
    generalize w.alloc (.cells (cellsOf 17 (treeH f (.slice B nx cb))) 26) = W0 at *
    obtain ⟨r, hr⟩ : ∃ r, nxT f xs b a = r := ⟨_, rfl⟩
    obtain ⟨q, hq⟩ : ∃ q, nxT f xs (b ++ m) a = q := ⟨_, rfl⟩
    rw [hr, hq] at happ
    obtain ⟨r1, r2, r3⟩ := r
    obtain ⟨q1, q2, q3⟩ := q
    have HX1 := Lib.hid (fun wx hr1 h => show Calls Try.prog 20 #[.agg (cellsOf 17 (treeH f (.slice B nx cb))), .slice A nb c, .int .i64 a] wx (fun e w' => e = .returned (.tuple #[.int .i64 (r1 : Int), .int .i64 (r2 : Int), .int .i64 (r3 : Int)]) ∧ Below wx.heap.size wx w') from by have := HX.out wx A c b nb HN.out.1 (by omega) hr1 h; rw [hr] at this; exact this)
    have HX2 := Lib.hid (fun wx A' c' (hr1 : Rd wx B (ints xs)) (h : Bs wx A' (b ++ m)) => show Calls Try.prog 20 #[.agg #[(.int .i64 (f 0)), (.int .i64 (f 1)), (.int .i64 (f 2)), (.int .i64 (f 3)), (.int .i64 (f 4)), (.int .i64 (f 5)), (.int .i64 (f 6)), (.int .i64 (f 7)), (.int .i64 (f 8)), (.int .i64 (f 9)), (.int .i64 (f 10)), (.int .i64 (f 11)), (.int .i64 (f 12)), (.int .i64 (f 13)), (.int .i64 (f 14)), (.int .i64 (f 15)), (.slice B nx cb)], .slice A' (nb + nm) c', .int .i64 a] wx (fun e w' => e = .returned (.tuple #[.int .i64 (q1 : Int), .int .i64 (q2 : Int), .int .i64 (q3 : Int)]) ∧ Below wx.heap.size wx w') from by have := HX.out wx A' c' (b ++ m) (nb + nm) (by rw [List.length_append, ← HN.out.1, ← HN.out.2.2]) (by omega) hr1 h; rw [hq] at this; exact this)
    have HR := Lib.hid happ
    clear hr hq happ HX
    go_upto_region 5 with (first
      | (go_at_call 19; refine (HV.out _).mono ?_; rintro e W1 ⟨rfl, b1⟩; have hb1 := hb0.trans (b1.mono hb0.size); have k31 := Arr.below k3 b1 (Blk.lt k3); have c16 := MK.out W1 k31; have hx1 := hB.below hb1; have hl1 := hl.below hb1)
      | (refine load_arr rfl 26 (.tmp 4) rfl rfl k31 tree_under rfl tree_size ?_)
      | (go_at_call 20; refine (HX1.out _ hx1 hl1).mono ?_; rintro e W5 ⟨rfl, b5⟩))
    have hb5 := hb1.trans (b5.mono hb1.size)
    have k5 := Arr.below k31 b5 (Blk.lt k31)
    clear k3 k31 hb0 b1 hb1 c16 hx1 hl1 b5 HX1 MK
    have hrb := (hl.below hb5).rd HA.out.1
    have hrm := (hlm.below hb5).rd HA.out.2
    have hx5 := hB.below hb5
    have hbb : ∀ x ∈ b ++ m, x < 256 := fun x hx => by rcases List.mem_append.1 hx with hx | hx; exact hl.2 x hx; exact hlm.2 x hx
    have HBB := Lib.hid hbb
    clear hbb
    have HS := Lib.hid (fun wx (b : Below W5.heap.size W5 wx) => show wx.cell? ⟨w.heap.size, 0, none⟩ = some (.int .i64 (f 0)) ∧ wx.cell? ⟨w.heap.size, 1, none⟩ = some (.int .i64 (f 1)) ∧ wx.cell? ⟨w.heap.size, 2, none⟩ = some (.int .i64 (f 2)) ∧ wx.cell? ⟨w.heap.size, 3, none⟩ = some (.int .i64 (f 3)) ∧ wx.cell? ⟨w.heap.size, 4, none⟩ = some (.int .i64 (f 4)) ∧ wx.cell? ⟨w.heap.size, 5, none⟩ = some (.int .i64 (f 5)) ∧ wx.cell? ⟨w.heap.size, 6, none⟩ = some (.int .i64 (f 6)) ∧ wx.cell? ⟨w.heap.size, 7, none⟩ = some (.int .i64 (f 7)) ∧ wx.cell? ⟨w.heap.size, 8, none⟩ = some (.int .i64 (f 8)) ∧ wx.cell? ⟨w.heap.size, 9, none⟩ = some (.int .i64 (f 9)) ∧ wx.cell? ⟨w.heap.size, 10, none⟩ = some (.int .i64 (f 10)) ∧ wx.cell? ⟨w.heap.size, 11, none⟩ = some (.int .i64 (f 11)) ∧ wx.cell? ⟨w.heap.size, 12, none⟩ = some (.int .i64 (f 12)) ∧ wx.cell? ⟨w.heap.size, 13, none⟩ = some (.int .i64 (f 13)) ∧ wx.cell? ⟨w.heap.size, 14, none⟩ = some (.int .i64 (f 14)) ∧ wx.cell? ⟨w.heap.size, 15, none⟩ = some (.int .i64 (f 15)) ∧ wx.cell? ⟨w.heap.size, 16, none⟩ = some (.slice B nx cb) from by
      have kx := Arr.below k5 b (Blk.lt k5)
      exact ⟨Arr.cell kx 0 (by omega), Arr.cell kx 1 (by omega), Arr.cell kx 2 (by omega), Arr.cell kx 3 (by omega), Arr.cell kx 4 (by omega), Arr.cell kx 5 (by omega), Arr.cell kx 6 (by omega), Arr.cell kx 7 (by omega), Arr.cell kx 8 (by omega), Arr.cell kx 9 (by omega), Arr.cell kx 10 (by omega), Arr.cell kx 11 (by omega), Arr.cell kx 12 (by omega), Arr.cell kx 13 (by omega), Arr.cell kx 14 (by omega), Arr.cell kx 15 (by omega), Arr.cell kx 16 (by omega)⟩)
    have s0 := HS.out W5 (Below.refl _ _)
    go_region_held3 (fun wx => wx.cell? ⟨w.heap.size, 0, none⟩ = some (.int .i64 (f 0)) ∧ wx.cell? ⟨w.heap.size, 1, none⟩ = some (.int .i64 (f 1)) ∧ wx.cell? ⟨w.heap.size, 2, none⟩ = some (.int .i64 (f 2)) ∧ wx.cell? ⟨w.heap.size, 3, none⟩ = some (.int .i64 (f 3)) ∧ wx.cell? ⟨w.heap.size, 4, none⟩ = some (.int .i64 (f 4)) ∧ wx.cell? ⟨w.heap.size, 5, none⟩ = some (.int .i64 (f 5)) ∧ wx.cell? ⟨w.heap.size, 6, none⟩ = some (.int .i64 (f 6)) ∧ wx.cell? ⟨w.heap.size, 7, none⟩ = some (.int .i64 (f 7)) ∧ wx.cell? ⟨w.heap.size, 8, none⟩ = some (.int .i64 (f 8)) ∧ wx.cell? ⟨w.heap.size, 9, none⟩ = some (.int .i64 (f 9)) ∧ wx.cell? ⟨w.heap.size, 10, none⟩ = some (.int .i64 (f 10)) ∧ wx.cell? ⟨w.heap.size, 11, none⟩ = some (.int .i64 (f 11)) ∧ wx.cell? ⟨w.heap.size, 12, none⟩ = some (.int .i64 (f 12)) ∧ wx.cell? ⟨w.heap.size, 13, none⟩ = some (.int .i64 (f 13)) ∧ wx.cell? ⟨w.heap.size, 14, none⟩ = some (.int .i64 (f 14)) ∧ wx.cell? ⟨w.heap.size, 15, none⟩ = some (.int .i64 (f 15)) ∧ wx.cell? ⟨w.heap.size, 16, none⟩ = some (.slice B nx cb)) (first | exact s0 | exact s1 | exact s2 | exact s3) (first
      | (refine step_grow elem_u8 rfl (.const (.slice none 0 0)) (.tmp 46) rfl rfl (Builds.nil' (W := W5) (by first | exact Below.refl _ _ | exact below_drewN' (Below.refl _ _) _ | exact Below.drew (Below.refl _ _)) _ _) rfl (by first | exact hrb | exact hrb.drewN _ | exact hrb.drew) (by rw [u8s_length, HN.out.1, Nat.mul_one]) (u8s_one _) nb (by omega) (u8s b) rfl (by omega) (by omega) ?_; intro A6 c6 w6 hB6 hg6; have s1 := HS.out _ hB6.1)
      | (have hh := hB6; clear hh; refine step_grow elem_u8 rfl (.tmp 47) (.tmp 48) rfl rfl (by first | exact hB6 | exact hB6.drewN _ | exact hB6.drew) rfl (by first | exact hrm.below hB6.1 | exact (hrm.below hB6.1).drewN _ | exact (hrm.below hB6.1).drew) (by rw [u8s_length, HN.out.2.2, Nat.mul_one]) (u8s_one _) (nb + nm) rfl (u8s (b ++ m)) (u8s_append _ _).symm (by omega) (by omega) ?_; intro A7 c7 w7 hB7 hg7; have s2 := HS.out _ hB7.1)
      | (go_at_call 20; have hh := hB7; clear hh; with_reducible refine Calls.mono (HX2.out _ _ _ (Rd.below hx5 (Builds.bel hB7)) (rd_u8 (Builds.rd hB7) HBB.out)) ?_; rintro e w8 ⟨rfl, b8⟩; have s3 := HS.out _ (hB7.bel.trans (b8.mono hB7.bel.size))))
    have hb8 := hb5.trans ((hB7.bel.trans (b8.mono hB7.bel.size)).mono hb5.size)
    clear s0 s1 s2 s3 HS hB6 hB7 hg6 hg7 HX2 hx5 hrb hrm k5 b8 HV
    by_cases h10 : r3 = 10
    · have h3 := HR.out.2 h10
      subst h10
      clear HR
      rcases h3 with h3 | h3 | h3
      all_goals
        subst h3
        go_wp2_with fail
        go_ret
        exact ⟨rfl, hb8⟩
    · have h3 := HR.out.1 h10
      have hne : ((r3 : Int) == 10) = false := by rw [beq_eq_false_iff_ne]; omega
      simp only [Prod.mk.injEq] at h3
      obtain ⟨rfl, rfl, rfl⟩ := h3
      clear HR h10
      go_wp2_with fail
      go_ret
      exact ⟨rfl, hb8⟩

theorem law_alone (f : Nat → Int) (B : Option Addr) (xs : List Int) (cb : Nat) (A : Option Addr) (b : List Nat) (c : Nat) (a : Int) (D : Option Addr) (m : List Nat) (d : Nat) (w : World)
    (hB : Rd w B (ints xs)) (hbc : xs.length ≤ cb) (hbm : xs.length ≤ maxLen) (hin : InBs w A b) (h1 : -9223372036854775808 ≤ a) (h2 : a ≤ 9223372036854775807) (hin2 : InBs w D m) :
    Calls Try.prog 7 #[treeV f B xs.length cb, .slice A b.length c, .int .i64 a, .slice D m.length d] w fun e w' => e = .returned (.bool true) ∧ Below w.heap.size w w' :=
  law_alone' f B xs cb A b c a D m d w _ _ _ rfl rfl rfl hB hbc hbm hin.1 hin.2.1 hin.2.2 h1 h2 hin2.1 hin2.2.1 hin2.2.2
end Go.Proofs.Ytpfhaalbikgmnaa
