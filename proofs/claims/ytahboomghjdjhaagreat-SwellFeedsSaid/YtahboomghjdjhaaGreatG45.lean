/-
  swell's own, for the laws: Feed in one, New, Great.
-/
import Derived.Test.YtahboomghjdjhaaGreatG28
import Derived.Test.YtahboomghjdjhaaGreatG36
import Derived.Test.YtahboomghjdjhaaGreatG39
import Derived.Test.YtahboomghjdjhaaGreatG42
import Derived.Test.YtahboomghjdjhaaGreatGSlideLaws
import Derived.Test.YtahboomghjdjhaaGreatGSwFb
namespace Go.Proofs.YtahboomghjdjhaaGreat
open Go.RowKit

/-- What Feed comes to: an error, or where the run ends. -/
def FeedIs (s : Wv) (b : List Nat) (o : Except Nat Ss) : Prop :=
  (ckS s = false ∧ o = .error 8) ∨ (ckS s = true ∧ s.over = true ∧ o = .error 6) ∨ (ckS s = true ∧ s.over = false ∧ ∃ k, CkIs s k ∧ o = runS (s.most.toNat - s.made.toNat) (s.lA ++ b) ⟨s.at0.toNat, k, false, s.lw, []⟩)
theorem FeedIs.ex (s : Wv) (b : List Nat) : ∃ o, FeedIs s b o := by
  cases hck : ckS s with
  | false => exact ⟨_, .inl ⟨hck, rfl⟩⟩
  | true =>
    cases hov : s.over with
    | true => exact ⟨_, .inr (.inl ⟨hck, hov, rfl⟩)⟩
    | false =>
      obtain ⟨k, hk⟩ := ck_stream hck
      exact ⟨_, .inr (.inr ⟨hck, hov, k, hk, rfl⟩)⟩
def FeedPost (w w' : World) (s : Wv) (n : Nat) (b : List Nat) (o : Except Nat Ss) (r : Ending) : Prop := match o with
  | .error e => FeedNo w w' e r
  | .ok s1 => FedOk w w' s.most.toNat s.made.toNat s.nA n (s.lA ++ b) s1 r
theorem feed_is {s : Wv} {w : World} (hs : s.ok w) {B : Option Addr} {n c : Nat} {b : List Nat} (hB : Rd w B (u8s b)) (hn : n = b.length) (hm : n ≤ 90000) (hx : ∀ x ∈ b, x < 256) {o : Except Nat Ss} (h : FeedIs s b o) :
    Calls Tryz.prog 8 #[.agg (cellsOf 45 s.F), .slice B n c] w fun r w' => FeedPost w w' s n b o r := by
  rcases h with ⟨hck, rfl⟩ | ⟨hck, hov, rfl⟩ | ⟨hck, hov, k, hk, rfl⟩
  · exact feed_bad s w hs B n c hck
  · exact feed_over s w hs B n c hck hov
  · have h1 := hk.most
    have h2 := hk.made
    have h3 := hk.at0
    refine (feed_any s w hs B n c b hB hn hm hck hov k hk s.most.toNat s.made.toNat s.at0.toNat (by omega) (by omega) (by omega) hx).mono fun r w' h => ?_
    unfold FeedRes at h
    unfold FeedPost
    exact h
/-- What Feed answers where there is no error: a stream x, bytes, and how many were read. -/
structure FedX (w w' : World) (s : Wv) (n : Nat) (b : List Nat) (s1 : Ss) (x : Wv) (T : Option Addr) (tn tc used : Nat) : Prop where
  only : Below w.heap.size w w'
  val : x.ok w'
  told : w'.ownsRow w.heap.size 5 1 (.slice T tn tc) tn (u8s s1.told)
  tn_ : tn = s1.told.length
  used_ : used = usedN s.nA n s1
  is : ∃ v I ci, x = fedV s.most.toNat s.made.toNat (s.lA ++ b) s1 v I (leftB (s.lA ++ b) s1).length ci ∧ FedMem w w' s.most.toNat s.made.toNat (s.lA ++ b) s1 v I ci
def FeedTo (w w' : World) (s : Wv) (n : Nat) (b : List Nat) (o : Except Nat Ss) (r : Ending) : Prop := match o with
  | .error e => FeedNo w w' e r
  | .ok s1 => ∃ (x : Wv) (T : Option Addr) (tn tc used : Nat), r = .returned (.tuple #[.agg (cellsOf 45 x.F), .slice T tn tc, .int .i64 (used : Int), .int .i64 0]) ∧ FedX w w' s n b s1 x T tn tc used
theorem feed_to {s : Wv} {w : World} (hs : s.ok w) {B : Option Addr} {n c : Nat} {b : List Nat} (hB : Rd w B (u8s b)) (hn : n = b.length) (hm : n ≤ 90000) (hx : ∀ x ∈ b, x < 256) {o : Except Nat Ss} (h : FeedIs s b o) :
    Calls Tryz.prog 8 #[.agg (cellsOf 45 s.F), .slice B n c] w fun r w' => FeedTo w w' s n b o r :=
  (feed_is hs hB hn hm hx h).mono fun r w' h => by
    cases o with
    | error e => exact h
    | ok s1 =>
      obtain ⟨v, I, ci, hr, hM⟩ : FedOk w w' s.most.toNat s.made.toNat s.nA n (s.lA ++ b) s1 r := h
      exact ⟨_, _, _, _, _, hr, hM.only, hM.val, hM.told, hM.nt_, rfl, v, I, ci, rfl, hM⟩
section
variable {w w' : World} {s : Wv} {n : Nat} {b : List Nat} {s1 : Ss} {x : Wv} {T : Option Addr} {tn tc used : Nat}
end
/-- A stream that goes on is so that may be, in numbers. -/
theorem FeedIs.p {s : Wv} {w : World} (hs : s.ok w) {b : List Nat} {s1 : Ss} (h : FeedIs s b (.ok s1)) : FedP s.most.toNat s.made.toNat (s.lA ++ b) s.lw s1 ∧ ckS s = true ∧ s.over = false ∧ 0 ≤ s.most ∧ 0 ≤ s.made ∧ s.made ≤ s.most := by
  rcases h with ⟨_, h⟩ | ⟨_, _, h⟩ | ⟨hck, hov, k, hk, h⟩
  · cases h
  · cases h
  · have h1 := hk.most
    have h2 := hk.made
    have h3 := hk.at0
    exact ⟨feed_p hs hk (by omega) (by omega) (a := s.at0.toNat) (by omega) h.symm, hck, hov, h1.1, h2.1, h2.2⟩
theorem Wv.inn.ok {s : Wv} {w : World} (h : s.inn w) (h1 : s.nA ≤ 1000) (h2 : s.nw ≤ 100000) (h3 : s.bk.m1 ≤ 1000) (h4 : s.bk.m2 ≤ 1000) : s.ok w :=
  ⟨h.rA, h.bA, h.lenA, h.capA, by omega, ⟨h.r1, h.l1, h.c1, by omega, h.r2, h.l2, h.c2, by omega⟩, h.rw_, h.bw, h.lenw, h.capw, by omega⟩

/-- A new stream. -/
def newV (most : Int) : Wv := ⟨most, 0, none, 0, 0, [], 0, zeroV, false, 32768, none, 0, 0, [], false⟩
def noV : Wv := ⟨0, 0, none, 0, 0, [], 0, zeroV, false, 0, none, 0, 0, [], false⟩
theorem newV_ok (most : Int) (w : World) : (newV most).ok w :=
  ⟨Rd.nil_, fun _ h => (by cases h), rfl, Nat.le_refl _, by show 0 ≤ 1000000; omega, zeroV_ok w, Rd.nil_, fun _ h => (by cases h), rfl, Nat.le_refl _, by show 0 ≤ 1000000; omega⟩
theorem noV_ok (w : World) : noV.ok w :=
  ⟨Rd.nil_, fun _ h => (by cases h), rfl, Nat.le_refl _, by show 0 ≤ 1000000; omega, zeroV_ok w, Rd.nil_, fun _ h => (by cases h), rfl, Nat.le_refl _, by show 0 ≤ 1000000; omega⟩
/-- What Great answers: true, or that all is small. -/
def GreatRes (w w' : World) (n nA nw m1 m2 : Nat) (most : Int) (r : Ending) : Prop := ∃ g : Bool, r = .returned (.bool g) ∧ Below w.heap.size w w' ∧ (g = false → n ≤ 300 ∧ nA ≤ 700 ∧ nw ≤ 4000 ∧ m1 ≤ 400 ∧ m2 ≤ 400 ∧ most ≤ 4000)
set_option maxRecDepth 100000 in
set_option maxHeartbeats 4000000 in
/-- Are they more than statements go through? -/
theorem great_any (s : Wv) (B : Option Addr) (n c : Nat) (w : World) :
    Calls Tryz.prog 4 #[.agg (cellsOf 45 s.F), .slice B n c] w fun r w' => GreatRes w w' n s.nA s.nw s.bk.m1 s.bk.m2 s.most r := by
  have hb0 : Below w.heap.size w (w.alloc (.cells (cellsOf 45 s.F) 32)) := (Below.refl _ _).alloc (Nat.le_refl _) _
  have k0 : Arr (w.alloc (.cells (cellsOf 45 s.F) 32)) w.heap.size 32 45 s.F := Blk.new _ _ _
  obtain ⟨ms, ma, A, nA, cA, lA, at0, bk, op, size, Bw, nw, cw, lw, over⟩ := s
  obtain ⟨kd, la, le, f1, C1, m1, d1, x1, f2, C2, m2, d2, x2⟩ := bk
  have q0 := Arr.cell k0 0 (by omega)
  have q2 := Arr.cell k0 2 (by omega)
  have q23 := Arr.cell k0 23 (by omega)
  have q40 := Arr.cell k0 40 (by omega)
  have q43 := Arr.cell k0 43 (by omega)
  dsimp only
  unfold Wv.F Bv.F at *
  dsimp only at *
  go_enter Tryz.func4, Tryz.ntmps4
  go_upto_region 1 with (fail)
  change Code.wp _ _ _ _ (w.alloc (.cells (cellsOf 45 (swH ms ma (.slice A nA cA) at0 (bkH (kd : Int) la le f1 (.slice C1 m1 d1) f2 (.slice C2 m2 d2)) op size (.slice Bw nw cw) over)) 32))
  generalize w.alloc (.cells (cellsOf 45 (swH ms ma (.slice A nA cA) at0 (bkH (kd : Int) la le f1 (.slice C1 m1 d1) f2 (.slice C2 m2 d2)) op size (.slice Bw nw cw) over)) 32) = w0 at *
  replace q0 : w0.cell? ⟨w.heap.size, 0, none⟩ = some (.int .i64 ms) := q0
  replace q2 : w0.cell? ⟨w.heap.size, 2, none⟩ = some (.slice A nA cA) := q2
  replace q23 : w0.cell? ⟨w.heap.size, 23, none⟩ = some (.slice C1 m1 d1) := q23
  replace q40 : w0.cell? ⟨w.heap.size, 40, none⟩ = some (.slice C2 m2 d2) := q40
  replace q43 : w0.cell? ⟨w.heap.size, 43, none⟩ = some (.slice Bw nw cw) := q43
  clear k0
  by_cases h1 : 300 < n
  · have e1 : decide ((300 : Int) < (n : Int)) = true := decide_eq_true (by omega)
    go_wp2_with fail
    go_ret
    exact ⟨true, rfl, hb0, fun h => (by cases h)⟩
  have e1 : decide ((300 : Int) < (n : Int)) = false := decide_eq_false (by omega)
  by_cases h2 : 700 < nA
  · have e2 : decide ((700 : Int) < (nA : Int)) = true := decide_eq_true (by omega)
    go_wp2_with fail
    go_ret
    exact ⟨true, rfl, hb0, fun h => (by cases h)⟩
  have e2 : decide ((700 : Int) < (nA : Int)) = false := decide_eq_false (by omega)
  by_cases h3 : 4000 < nw
  · have e3 : decide ((4000 : Int) < (nw : Int)) = true := decide_eq_true (by omega)
    go_wp2_with fail
    go_ret
    exact ⟨true, rfl, hb0, fun h => (by cases h)⟩
  have e3 : decide ((4000 : Int) < (nw : Int)) = false := decide_eq_false (by omega)
  by_cases h4 : 400 < m1
  · have e4 : decide ((400 : Int) < (m1 : Int)) = true := decide_eq_true (by omega)
    go_wp2_with fail
    go_ret
    exact ⟨true, rfl, hb0, fun h => (by cases h)⟩
  have e4 : decide ((400 : Int) < (m1 : Int)) = false := decide_eq_false (by omega)
  by_cases h5 : 400 < m2
  · have e5 : decide ((400 : Int) < (m2 : Int)) = true := decide_eq_true (by omega)
    go_wp2_with fail
    go_ret
    exact ⟨true, rfl, hb0, fun h => (by cases h)⟩
  have e5 : decide ((400 : Int) < (m2 : Int)) = false := decide_eq_false (by omega)
  by_cases h6 : 4000 < ms
  · have e6 : decide ((4000 : Int) < ms) = true := decide_eq_true (by omega)
    go_wp2_with fail
    go_ret
    exact ⟨true, rfl, hb0, fun h => (by cases h)⟩
  have e6 : decide ((4000 : Int) < ms) = false := decide_eq_false (by omega)
  have HE := Lib.hid (And.intro h1 (And.intro h2 (And.intro h3 (And.intro h4 (And.intro h5 h6)))))
  go_wp2_with fail
  go_ret
  exact ⟨false, rfl, hb0, fun _ => by obtain ⟨h1, h2, h3, h4, h5, h6⟩ := HE.out; exact ⟨by omega, by omega, by omega, by omega, by omega, by omega⟩⟩

/-! ### Reckoned runs -/
end Go.Proofs.YtahboomghjdjhaaGreat

/-
  Walks: alive of swell's laws.
-/
namespace Go.Proofs.YtahboomghjdjhaaGreat
open Go.RowKit

theorem box_sw {w w1 w2 : World} {o : Obj} (hb1 : Below w.heap.size w w1) (g2 : (w1.alloc o).grownBy w2 (some w1.heap.size)) : Below w.heap.size w w2 :=
  Below.then_only (hb1.alloc hb1.size _) g2 (by simp; have := hb1.size; omega) hb1.size
theorem conv_row (w : World) {A : Option Addr} {n : Nat} {l : List Nat} (h : Rd w A (u8s l)) (hb : ∀ x ∈ l, x < 256) (hn : n = l.length) (c : Nat) : (convert 22 9 (.slice A n c)).run Tryz.prog w = .ok (.string (str l)) w := by
  subst hn
  exact conv_bytes (P := Tryz.prog) w 22 5 Tryz.underlying22 Tryz.underlying5 9 Tryz.underlying9 A l c (rd_u8 h hb) (fun e => by have := h.2 e; simpa [u8s] using this)
theorem wv_one (s : Wv) (i : Nat) : (s.F i).oneCell' = true := swH_one _ _ _ _ _ _ _ _ _ _ _ _ _ i
end Go.Proofs.YtahboomghjdjhaaGreat

/-
  Bytes in two parts: what Feed answers, and a region that appends, calls Feed and keeps what it answers. No walk.
-/
namespace Go.Proofs.YtahboomghjdjhaaGreat
open Go.RowKit

section
variable {P : Program}
end

section
variable {W w1 w w' : World} {most made : Nat} {all : List Nat} {s1 : Ss} {v : Sv} {I : Option Addr} {ci : Nat} {s : Wv} {n : Nat} {b : List Nat} {x : Wv} {T : Option Addr} {tn tc u g : Nat} {cs : Array Value}
end

/-- What a call of Feed has answered. -/
def FeedAt (W w : World) (s : Wv) (n : Nat) (b : List Nat) (o : Except Nat Ss) (v : Value) : Prop := match o with
  | .error e => v = .tuple #[.agg (cellsOf 45 swZ), .slice none 0 0, .int .i64 0, .int .i64 (e : Int)]
  | .ok s1 => ∃ (x : Wv) (T : Option Addr) (tn tc used : Nat), v = .tuple #[.agg (cellsOf 45 x.F), .slice T tn tc, .int .i64 (used : Int), .int .i64 0] ∧ FedX W w s n b s1 x T tn tc used
section
variable {W w1 w w' : World} {s : Wv} {n : Nat} {b : List Nat} {o : Except Nat Ss} {v : Value} {g : Nat} {cs : Array Value}
end
/-- The worlds of a region that appends twice, calls Feed, makes a variable and keeps the stream there. -/
def parD (W : World) (s : Wv) (n m : Nat) (la lb : List Nat) (o : Except Nat Ss) (k : Nat) (f : Bool) (vs : Nat → Value) (va : Value) (w : World) : Prop :=
  Below W.heap.size W w ∧
  (k = 1 → ∃ A c, vs 0 = .slice A n c ∧ w.ownsRow W.heap.size 5 1 (.slice A n c) n (u8s la)) ∧
  (k = 2 → ∃ A c, vs 1 = .slice A (n + m) c ∧ w.ownsRow W.heap.size 5 1 (.slice A (n + m) c) (n + m) (u8s (la ++ lb))) ∧
  (3 ≤ k → FeedAt W w s (n + m) (la ++ lb) o (vs 2)) ∧
  (f = true → ∃ g cf, va = .pointer (some ⟨g, 0, none⟩) ∧ W.heap.size ≤ g ∧ Arr w g 32 45 cf ∧ (k ≤ 5 → cf = swZ) ∧ (6 ≤ k → vs 4 = .agg (cellsOf 45 cf))) ∧
  (6 ≤ k → f = true)
section
variable {W w w' : World} {s : Wv} {n m : Nat} {la lb : List Nat} {o : Except Nat Ss} {f : Bool} {vs vs' : Nat → Value} {va : Value}
end

/-! ### Two parts -/
section
variable {s : Wv} {w : World} {a b : List Nat}
end
theorem bkV_same (k : Option Bk) (v v' : Sv) : sameV (bkV k v) (bkV k v') = true := by
  cases k with
  | none => unfold sameV bkV; simp [sameT_refl]
  | some k => unfold sameV bkV; simp [sameT_refl]
theorem fedV_same {most made : Nat} {all : List Nat} {s1 : Ss} {v v' : Sv} {I I' : Option Addr} {ni ni' ci ci' : Nat} : sameW (fedV most made all s1 v I ni ci) (fedV most made all s1 v' I' ni' ci') = true := by
  unfold sameW fedV
  simp [bkV_same]
end Go.Proofs.YtahboomghjdjhaaGreat
