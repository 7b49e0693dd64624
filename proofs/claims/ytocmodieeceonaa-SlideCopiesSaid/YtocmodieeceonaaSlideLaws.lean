/-
  abc, alive: the chapter's window.
-/
import Derived.Test.YtocmodieeceonaaSlideC
import Derived.Lib.SlBytesConst
namespace Go.Proofs.Ytocmodieeceonaa
open Go.RowKit

theorem new_bytes (w : World) (A : Option Addr) (l : List Nat) (cs : Array Value) (t : TypeId) (fr : Nat × Nat) (hA : A = some ⟨w.heap.size, 0, none⟩) (hc : cs.toList = u8s l) (hl : ∀ x ∈ l, x < 256) : Bs (w.alloc (.cells cs t fr)) A l := by
  subst hA
  refine ⟨fun _ => ⟨_, _, rfl, fun i u hu => ?_⟩, hl⟩
  have : (w.alloc (.cells cs t fr)).heap[w.heap.size]? = some (.cells cs t fr) := heap_alloc_new w _
  rw [show (l.map fun (x : Nat) => Value.int .u8 (x : Int)) = u8s l from rfl, ← hc] at hu
  simp only [World.cell?, this]
  simpa using hu
theorem conv_const (w : World) (g : Nat) (C : Array Value) (n c : Nat) (hg : g = w.heap.size) :
    (convert 22 22 (.slice (some ⟨g, 0, none⟩) n c)).run Try.prog (w.alloc (.cells C 5)) = .ok (.slice (some ⟨g, 0, none⟩) n c) (w.alloc (.cells C 5 (C.size, C.size + 1))) := by
  subst hg
  exact Lib.run_convert_bytes_const w _ _ C n c Try.underlying22 Try.underlying5

theorem push_is (A B : Option Addr) (c d : Nat) (l b : List Nat) (s nl nb : Nat) (w : World) (M : List Nat) (hM : lastL s (l ++ b) = M) (hnl : nl = l.length) (hnb : nb = b.length) (h : MayW s l) (hbm : b.length ≤ 131072) (hc : l.length ≤ c) (hl : Bs w A l) (hA : A = none → l = []) (hb : Bs w B b) (hB : B = none → b = []) :
    Calls Try.prog 12 #[.agg #[.int .i64 s, .slice A nl c], .slice B nb d] w fun e w' => WinRes w w' e s M 0 := by
  subst hM hnl hnb; exact push_ok A B c d l b s w h hbm hc hl hA hb hB

theorem copy_is (A : Option Addr) (c : Nat) (l : List Nat) (s nl dist n : Nat) (w : World) (M T : List Nat) (hM : lastL s (copyL l dist n) = M) (hT : (copyL l dist n).drop l.length = T) (hnl : nl = l.length) (h : MayW s l) (hn : n ≤ 258) (hd1 : 1 ≤ dist) (hd2 : dist ≤ l.length) (hl : Bs w A l) (hA : A = none → l = []) :
    Calls Try.prog 8 #[.agg #[.int .i64 s, .slice A nl c], .int .i64 dist, .int .i64 n] w fun e w' => CopyRes w w' e s M T 0 := by
  subst hM hT hnl; exact copy_ok A c l s dist n w h hn hd1 hd2 hl hA

/-- The chapter's window. -/
def AbcRes (w w' : World) (e : Ending) : Prop :=
  Below w.heap.size w w' ∧ ∃ A c, e = .returned (.tuple #[.agg #[.int .i64 4, .slice A 3 c], .bool true]) ∧ w'.ownsRow w.heap.size 5 1 (.slice A 3 c) 3 (u8s [97, 98, 99])

set_option maxHeartbeats 1000000 in
theorem abc_any (w : World) : Calls Try.prog 7 #[] w fun e w' => AbcRes w w' e := by
  obtain ⟨m, hm⟩ : ∃ m, m = [97, 98, 99] := ⟨_, rfl⟩
  have p1 : lastL 4 ([] ++ m) = m := by subst hm; decide
  have l3 : m.length = 3 := by subst hm; rfl
  have b1 : ∀ x ∈ m, x < 256 := by subst hm; simp
  have hu : (u8s m).toArray = #[.int .u8 97, .int .u8 98, .int .u8 99] := by subst hm; rfl
  have HH := Lib.hid (And.intro p1 (And.intro b1 (And.intro hm (And.intro l3 hu))))
  clear p1 b1 hm l3 hu
  go_enter Try.func7, Try.ntmps7
  go_wp2_with fail
  refine (new_yes 4 _ (by omega) (by omega)).mono ?_
  rintro e w1 ⟨rfl, hb1⟩
  obtain ⟨b1, z1, k1⟩ := box1 hb1
  clear hb1
  have hcv := conv_const (w1.alloc (.cells #[.int .i64 4, .slice none 0 0] 24)) (w1.heap.size + 1) #[.int .u8 97, .int .u8 98, .int .u8 99] 3 3 (by simp)
  have hx := new_bytes (w1.alloc (.cells #[.int .i64 4, .slice none 0 0] 24)) (some ⟨w1.heap.size + 1, 0, none⟩) m #[.int .u8 97, .int .u8 98, .int .u8 99] 5 (3, 4) (by simp) (by rw [HH.out.2.2.1]; rfl) HH.out.2.1
  go_wp2_with fail
  refine (push_is none (some ⟨w1.heap.size + 1, 0, none⟩) 0 3 [] m 4 0 3 _ m HH.out.1 rfl HH.out.2.2.2.1.symm ⟨by omega, by omega, by simp⟩ (by have := HH.out.2.2.2.1; omega) (by simp) Bs.nil_ (fun _ => rfl) hx (fun h => by cases h)).mono ?_
  rintro e w2 ⟨hb2, A2, d2, rfl, hown2⟩
  have k2 : Blk w2 w1.heap.size 24 #[.int .i64 4, .slice none 0 0] := Blk.below (Blk.alloc (Blk.new _ _ _) _) hb2 (by simp; omega)
  have k3 : Blk w2 w.heap.size 24 #[.int .i64 0, .slice none 0 0] := Blk.below (Blk.alloc (Blk.alloc k1 _) _) hb2 (by simp; omega)
  have b2 : Below w.heap.size w w2 := ((b1.alloc b1.size _).alloc (by simp; omega) _).trans (hb2.mono (by simp; omega))
  have hown3 := own_far_base (base' := w.heap.size) hown2 (by simp; omega)
  have x2 := Blk.cells k2
  have x3 := Blk.cells k3
  have y2 := Blk.frozens k2
  have y3 := Blk.frozens k3
  have z3 := Blk.lt k2
  clear hb2 hown2
  go_wp2_with fail
  refine bodyPost_ret (v := .tuple #[.agg #[.int .i64 4, .slice A2 m.length d2], .bool true]) (by simp [results, Try.results7, go_sem, x2, x3]) rfl ?_
  have ne2 := own_blk_ne hown3 k2 (by decide)
  have ne3 := own_blk_ne hown3 k3 (by decide)
  refine ⟨?_, A2, d2, ?_, ?_⟩
  · exact (((b2.setCell b1.size _).setCell b1.size _).setCell (Nat.le_refl _) _).setCell (Nat.le_refl _) _
  · rw [HH.out.2.2.2.1]
  · rw [← HH.out.2.2.1, ← HH.out.2.2.2.1]
    exact own_far (own_far (own_far (own_far hown3 ne2 _) ne2 _) ne3 _) ne3 _

set_option maxHeartbeats 1000000 in
theorem alive_any (w : World) : Calls Try.prog 10 #[] w fun e w' => e = .returned (.bool true) ∧ Below w.heap.size w w' := by
  obtain ⟨m, hm⟩ : ∃ m, m = [97, 98, 99] := ⟨_, rfl⟩
  obtain ⟨q, hq⟩ : ∃ m, m = [100, 101] := ⟨_, rfl⟩
  obtain ⟨x, hx⟩ : ∃ m, m = [98, 99, 100, 101] := ⟨_, rfl⟩
  obtain ⟨y, hy⟩ : ∃ m, m = [98, 99, 97, 98] := ⟨_, rfl⟩
  obtain ⟨t, ht⟩ : ∃ m, m = [97, 98, 99, 97, 98] := ⟨_, rfl⟩
  have p1 : lastL 4 (m ++ q) = x := by subst hm hq hx; decide
  have p2 : lastL 4 (copyL m 3 5) = y := by subst hm hy; decide
  have p3 : (copyL m 3 5).drop m.length = t := by subst hm ht; decide
  have l1 : 3 = m.length := by subst hm; rfl
  have l2 : 2 = q.length := by subst hq; rfl
  have bm : ∀ x ∈ m, x < 256 := by subst hm; simp
  have bq : ∀ x ∈ q, x < 256 := by subst hq; simp
  have bx : ∀ z ∈ x, z < 256 := by subst hx; simp
  have bY : ∀ x ∈ y, x < 256 := by subst hy; simp
  have bt : ∀ x ∈ t, x < 256 := by subst ht; simp
  have uq : (#[.int .u8 100, .int .u8 101] : Array Value).toList = u8s q := by subst hq; rfl
  have sx : str x = ⟨#[98, 99, 100, 101]⟩ := by subst hx; rfl
  have sy : str y = ⟨#[98, 99, 97, 98]⟩ := by subst hy; rfl
  have st : str t = ⟨#[97, 98, 99, 97, 98]⟩ := by subst ht; rfl
  have P := Lib.hid (And.intro p1 (And.intro p2 p3))
  have L := Lib.hid (And.intro l1 l2)
  have B := Lib.hid (And.intro bm (And.intro bq (And.intro bx (And.intro bY bt))))
  have U := Lib.hid uq
  have S := Lib.hid (And.intro sx (And.intro sy st))
  have HM := Lib.hid hm
  clear p1 p2 p3 l1 l2 bm bq bx bY bt uq sx sy st hm hq hx hy ht
  go_enter Try.func10, Try.ntmps10
  go_wp2_with fail
  refine (abc_any _).mono ?_
  rintro e w1 ⟨b1, A1, d1, rfl, hown1⟩
  rw [← HM.out] at hown1
  have x1 : Bs w1 A1 m := Bs.of_own hown1 B.out.1
  have N1 := Lib.hid (show A1 = none → m = [] from own_nil hown1)
  have z1 := own_cap hown1
  clear hown1
  obtain ⟨W, hW⟩ : ∃ W, W = w1.alloc (.cells #[.int .i64 4, .slice A1 3 d1] 24) := ⟨_, rfl⟩
  have hcv := conv_const W (w1.heap.size + 1) #[.int .u8 100, .int .u8 101] 2 2 (by subst hW; simp)
  have hx := new_bytes W (some ⟨w1.heap.size + 1, 0, none⟩) q #[.int .u8 100, .int .u8 101] 5 (2, 3) (by subst hW; simp) U.out B.out.2.1
  have hl : Bs (W.alloc (.cells #[.int .u8 100, .int .u8 101] 5 (2, 3))) A1 m := by subst hW; exact (x1.alloc _).alloc _
  have kW : Blk W w1.heap.size 24 #[.int .i64 4, .slice A1 3 d1] := by subst hW; exact Blk.new _ _ _
  subst hW
  go_wp2_with fail
  refine (push_is A1 (some ⟨w1.heap.size + 1, 0, none⟩) d1 2 m q 4 3 2 _ x P.out.1 L.out.1 L.out.2 ⟨by omega, by omega, by have := L.out.1; omega⟩ (by have := L.out.2; omega) (by have := L.out.1; omega) hl N1.out hx (fun h => by cases h)).mono ?_
  rintro e w2 ⟨hb2, A2, d2, rfl, hown2⟩
  have k2 : Blk w2 w1.heap.size 24 #[.int .i64 4, .slice A1 3 d1] := Blk.below (Blk.alloc kW _) hb2 (by simp; omega)
  have b2 : Below w.heap.size w w2 := ((b1.alloc b1.size _).alloc (by have := b1.size; simp; omega) _).trans (hb2.mono (by have := b1.size; simp; omega))
  have hl2 := hl.below (hb2)
  have x2 : Bs w2 A2 x := Bs.of_own hown2 B.out.2.2.1
  have N2 := Lib.hid (own_nil hown2)
  have c2 := Blk.cells k2
  have z2 := Blk.lt k2
  clear hb2 hown2 hcv hx hl kW x1
  go_wp2_with fail
  refine (copy_is A1 d1 m 4 3 3 5 _ y t P.out.2.1 P.out.2.2 L.out.1 ⟨by omega, by omega, by have := L.out.1; omega⟩ (by omega) (by omega) (by have := L.out.1; omega) (hl2.alloc _) N1.out).mono ?_
  rintro e w3 ⟨hb3, A3, d3, A4, d4, rfl, hown3, hown4⟩
  obtain ⟨b3, z3, k3⟩ := box1 hb3
  have b4 := b2.trans (b3.mono b2.size)
  have c3 := Blk.cells k3
  have y2 := (x2.below b3).alloc (.cells #[.int .i64 4, .slice A3 y.length d3] 24)
  have y3 := (Bs.of_own hown3 B.out.2.2.2.1).alloc (.cells #[.int .i64 4, .slice A3 y.length d3] 24)
  have y4 := (Bs.of_own hown4 B.out.2.2.2.2).alloc (.cells #[.int .i64 4, .slice A3 y.length d3] 24)
  have h2 := conv_bytes (P := Try.prog) _ 22 5 Try.underlying22 Try.underlying5 9 Try.underlying9 A2 x d2 y2 N2.out
  have h3 := conv_bytes (P := Try.prog) _ 22 5 Try.underlying22 Try.underlying5 9 Try.underlying9 A3 y d3 y3 (own_nil hown3)
  have h4 := conv_bytes (P := Try.prog) _ 22 5 Try.underlying22 Try.underlying5 9 Try.underlying9 A4 t d4 y4 (own_nil hown4)
  rw [S.out.1] at h2
  rw [S.out.2.1] at h3
  rw [S.out.2.2] at h4
  clear y2 y3 y4 hown3 hown4 hb3 x2 hl2
  go_wp2_with fail
  go_ret
  exact ⟨rfl, b4.alloc b4.size _⟩
end Go.Proofs.Ytocmodieeceonaa
