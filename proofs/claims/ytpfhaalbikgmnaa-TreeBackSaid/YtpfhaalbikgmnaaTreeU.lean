/-
  Walks: tree.Next, the reference's Check and Next.
-/
import Derived.Test.YtpfhaalbikgmnaaTreeS
namespace Go.Proofs.Ytpfhaalbikgmnaa
open Go.RowKit

/-- What Next tells: of a tree, bytes and a place. -/
def nxT (f : Nat → Int) (xs : List Int) (b : List Nat) (a : Int) : Nat × Nat × Nat := match chkT f xs with
  | none => (0, 0, 8)
  | some l => if a < 0 then (0, 0, 2) else rdT l b 16 0 0 a.toNat
theorem nx_none {f : Nat → Int} {xs : List Int} {b : List Nat} {a : Int} (h : chkT f xs = none) : nxT f xs b a = (0, 0, 8) := by unfold nxT; rw [h]
theorem nx_neg {f : Nat → Int} {xs : List Int} {b : List Nat} {a : Int} {l : List Nat} (h : chkT f xs = some l) (ha : a < 0) : nxT f xs b a = (0, 0, 2) := by unfold nxT; rw [h]; simp [ha]
theorem nx_some {f : Nat → Int} {xs : List Int} {b : List Nat} {a : Int} {l : List Nat} (h : chkT f xs = some l) (ha : 0 ≤ a) : nxT f xs b a = rdT l b 16 0 0 a.toNat := by unfold nxT; rw [h]; simp [show ¬ a < 0 by omega]
theorem chkE_some {f : Nat → Int} {xs : List Int} {l : List Nat} (h : chkT f xs = some l) : chkE f xs = 0 := by unfold chkE; rw [h]; rfl

set_option maxRecDepth 100000 in
set_option maxHeartbeats 2000000 in
theorem rchk_any (f : Nat → Int) (A : Option Addr) (n c : Nat) (xs : List Int) (w : World) (hx : Rd w A (ints xs)) (hn : n = xs.length) (hn1 : n ≤ 1001) :
    Calls Try.prog 14 #[treeV f A n c] w fun e w' => ChkRes w w' e f xs := by
  have HL := Lib.hid (fun wx hx => rlengths_any f A n c xs wx hx hn hn1)
  unfold treeV at HL ⊢
  have hb : Below w.heap.size w (w.alloc (.cells (cellsOf 17 (treeH f (.slice A n c))) 26)) := (Below.refl _ _).alloc (Nat.le_refl _) _
  have ka : Arr (w.alloc (.cells (cellsOf 17 (treeH f (.slice A n c))) 26)) w.heap.size 26 17 (treeH f (.slice A n c)) := Blk.new _ _ _
  have HX := Lib.hid (hx.below hb)
  clear hn hx
  cases hr : chkT f xs with
  | none =>
    rw [hr] at HL
    have hE := Lib.hid (chkE_none hr)
    clear hr
    go_enter Try.func14, Try.ntmps14
    go_upto_region 1 with (fail)
    change Code.wp _ _ _ _ (w.alloc (.cells (cellsOf 17 (treeH f (.slice A n c))) 26))
    generalize w.alloc (.cells (cellsOf 17 (treeH f (.slice A n c))) 26) = W1 at *
    go_wp2_with (first | (refine load_arr rfl 26 (.tmp 1) rfl rfl ka tree_under rfl tree_size ?_) | (go_at_call 30; refine (HL.out _ HX.out).mono ?_; rintro e W2 ⟨hb2, rfl⟩))
    go_ret
    exact ChkRes.mk' hE.out rfl (hb.trans (hb2.mono hb.size))
  | some l =>
    rw [hr] at HL
    have hE := Lib.hid (chkE_some hr)
    clear hr
    go_enter Try.func14, Try.ntmps14
    go_upto_region 1 with (fail)
    change Code.wp _ _ _ _ (w.alloc (.cells (cellsOf 17 (treeH f (.slice A n c))) 26))
    generalize w.alloc (.cells (cellsOf 17 (treeH f (.slice A n c))) 26) = W1 at *
    go_wp2_with (first | (refine load_arr rfl 26 (.tmp 1) rfl rfl ka tree_under rfl tree_size ?_) | (go_at_call 30; refine (HL.out _ HX.out).mono ?_; rintro e W2 ⟨hb2, _, B, d, rfl, _⟩))
    go_ret
    exact ChkRes.mk' hE.out rfl (hb.trans (hb2.mono hb.size))

set_option maxRecDepth 100000 in
set_option maxHeartbeats 2000000 in
theorem rnext_any (f : Nat → Int) (A B : Option Addr) (n c nb d : Nat) (xs : List Int) (b : List Nat) (a : Int) (w : World) (hx : Rd w A (ints xs)) (hn : n = xs.length) (hn1 : n ≤ 1001) (hB : Bs w B b) (hnb : nb = b.length) (hb1 : nb ≤ 100000) (h1 : -9223372036854775808 ≤ a) (h2 : a ≤ 9223372036854775807) :
    Calls Try.prog 21 #[treeV f A n c, .slice B nb d, .int .i64 a] w fun e w' => ReadRes w w' e (nxT f xs b a) := by
  have HL := Lib.hid (fun wx hx => rlengths_any f A n c xs wx hx hn hn1)
  unfold treeV at HL ⊢
  have hb : Below w.heap.size w (w.alloc (.cells (cellsOf 17 (treeH f (.slice A n c))) 26)) := (Below.refl _ _).alloc (Nat.le_refl _) _
  have ka : Arr (w.alloc (.cells (cellsOf 17 (treeH f (.slice A n c))) 26)) w.heap.size 26 17 (treeH f (.slice A n c)) := Blk.new _ _ _
  have HX := Lib.hid (hx.below hb)
  have hB2 := hB.below hb
  have HNB := Lib.hid hnb
  clear hn hx hB hnb
  cases hr : chkT f xs with
  | none =>
    rw [hr] at HL
    have hE := Lib.hid (nx_none (b := b) (a := a) hr)
    clear hr
    go_enter Try.func21, Try.ntmps21
    go_upto_region 1 with (fail)
    change Code.wp _ _ _ _ (w.alloc (.cells (cellsOf 17 (treeH f (.slice A n c))) 26))
    generalize w.alloc (.cells (cellsOf 17 (treeH f (.slice A n c))) 26) = W1 at *
    go_wp2_with (first | (refine load_arr rfl 26 (.tmp 3) rfl rfl ka tree_under rfl tree_size ?_) | (go_at_call 30; refine (HL.out _ HX.out).mono ?_; rintro e W2 ⟨hb2, rfl⟩))
    go_ret3
    exact ReadRes.mk' hE.out rfl (hb.trans (hb2.mono hb.size))
  | some l =>
    rw [hr] at HL
    by_cases ha : a < 0
    · have hE := Lib.hid (nx_neg (b := b) hr ha)
      clear hr
      go_enter Try.func21, Try.ntmps21
      go_upto_region 1 with (fail)
      change Code.wp _ _ _ _ (w.alloc (.cells (cellsOf 17 (treeH f (.slice A n c))) 26))
      generalize w.alloc (.cells (cellsOf 17 (treeH f (.slice A n c))) 26) = W1 at *
      go_wp2_with (first | (refine load_arr rfl 26 (.tmp 3) rfl rfl ka tree_under rfl tree_size ?_) | (go_at_call 30; refine (HL.out _ HX.out).mono ?_; rintro e W2 ⟨hb2, _, B, d, rfl, _⟩))
      go_ret3
      exact ReadRes.mk' hE.out rfl (hb.trans (hb2.mono hb.size))
    · obtain ⟨a0, rfl⟩ : ∃ a0 : Nat, a = (a0 : Int) := ⟨a.toNat, by omega⟩
      have hE := Lib.hid (nx_some (b := b) hr (show (0 : Int) ≤ (a0 : Int) by omega))
      rw [Int.toNat_natCast] at hE
      have hc := (chk_some hr).1
      have HC := Lib.hid (And.intro hc (And.intro (can15 hc) (canE_ok hc).2.2.2.2.1))
      have ha0 : ¬ ((a0 : Int) < 0) := ha
      clear hr hc ha
      have HMd := Lib.hid (fun wx D dd (hD : Rd wx D (u8s l)) (hl : l.length = 320) => show Calls Try.prog 36 #[.slice D 320 dd] wx (fun e w' => ∃ A' c', e = .returned (.slice A' 320 c') ∧ Below wx.heap.size wx w' ∧ Rd w' A' (codV (codesL l))) from by
        have := made_any D dd l wx (rd_u8 hD (fun x hx => by have := HC.out.2.1 x hx; omega)) (by rw [hl]; omega) HC.out.2.1 HC.out.2.2
        rw [hl] at this
        exact this.mono fun e w' ⟨B', d', he, hb⟩ => ⟨B', d', he, hb.1, hb.rd⟩)
      have HRd := Lib.hid (fun wx A' c' (hA : Rd wx A' (codV (codesL l))) hl hBx => rread_any A' B c' d nb l b a0 wx hA hl HC.out.1 hBx HNB.out hb1 (by omega))
      go_enter Try.func21, Try.ntmps21
      go_upto_region 1 with (fail)
      change Code.wp _ _ _ _ (w.alloc (.cells (cellsOf 17 (treeH f (.slice A n c))) 26))
      generalize w.alloc (.cells (cellsOf 17 (treeH f (.slice A n c))) 26) = W1 at *
      go_wp2_with (first
        | (refine load_arr rfl 26 (.tmp 3) rfl rfl ka tree_under rfl tree_size ?_)
        | (go_at_call 30; refine (HL.out _ HX.out).mono ?_; rintro e W2 ⟨hb2, hl, D, dd, rfl, hD⟩; have hB3 := hB2.below hb2; have HLn := Lib.hid hl; clear hl)
        | (go_at_call 36; refine (HMd.out _ _ _ hD.rd HLn.out).mono ?_; rintro e W3 ⟨A', c', rfl, hb3, hA'⟩; have hB4 := hB3.below hb3)
        | (go_at_call 35; refine (HRd.out _ _ _ hA' HLn.out hB4).mono ?_; rintro e W4 ⟨rfl, hb4⟩))
      go_ret3
      exact ReadRes.mk' hE.out rfl (hb.trans ((hb2.trans ((hb3.trans (hb4.mono hb3.size)).mono hb2.size)).mono hb.size))
end Go.Proofs.Ytpfhaalbikgmnaa
