/-
  swell's own, for the laws: Feed in one, New, Great.
-/
import Derived.Test.YtahboomghjdjhaaG28
import Derived.Test.YtahboomghjdjhaaG36
import Derived.Test.YtahboomghjdjhaaG39
import Derived.Test.YtahboomghjdjhaaG43
import Derived.Test.YtahboomghjdjhaaGOpen
import Derived.Test.YtahboomghjdjhaaGSlideLaws
import Derived.Test.YtahboomghjdjhaaGSwFb
namespace Go.Proofs.Ytahboomghjdjhaa
open Go.RowKit

/-- What Feed comes to: an error, or where the run ends. -/
def FeedIs (s : Wv) (b : List Nat) (o : Except Nat Ss) : Prop :=
  (ckS s = false ∧ o = .error 8) ∨ (ckS s = true ∧ s.over = true ∧ o = .error 6) ∨ (ckS s = true ∧ s.over = false ∧ ∃ k, CkIs s k ∧ o = runS (s.most.toNat - s.made.toNat) (s.lA ++ b) ⟨s.at0.toNat, k, false, s.lw, []⟩)
theorem FeedIs.ex (s : Wv) (b : List Nat) : ∃ o, FeedIs s b o := by
  cases hck : ckS s with
  | false => exact ⟨_, .inl ⟨hck, rfl⟩⟩
  | true =>
    cases hov : s.over with
    | true => exact ⟨_, .inr (.inl ⟨hck, hov, rfl⟩)⟩
    | false =>
      obtain ⟨k, hk⟩ := ck_stream hck
      exact ⟨_, .inr (.inr ⟨hck, hov, k, hk, rfl⟩)⟩
def FeedPost (w w' : World) (s : Wv) (n : Nat) (b : List Nat) (o : Except Nat Ss) (r : Ending) : Prop := match o with
  | .error e => FeedNo w w' e r
  | .ok s1 => FedOk w w' s.most.toNat s.made.toNat s.nA n (s.lA ++ b) s1 r
theorem feed_is {s : Wv} {w : World} (hs : s.ok w) {B : Option Addr} {n c : Nat} {b : List Nat} (hB : Rd w B (u8s b)) (hn : n = b.length) (hm : n ≤ 90000) (hx : ∀ x ∈ b, x < 256) {o : Except Nat Ss} (h : FeedIs s b o) :
    Calls Try.prog 8 #[.agg (cellsOf 45 s.F), .slice B n c] w fun r w' => FeedPost w w' s n b o r := by
  rcases h with ⟨hck, rfl⟩ | ⟨hck, hov, rfl⟩ | ⟨hck, hov, k, hk, rfl⟩
  · exact feed_bad s w hs B n c hck
  · exact feed_over s w hs B n c hck hov
  · have h1 := hk.most
    have h2 := hk.made
    have h3 := hk.at0
    refine (feed_any s w hs B n c b hB hn hm hck hov k hk s.most.toNat s.made.toNat s.at0.toNat (by omega) (by omega) (by omega) hx).mono fun r w' h => ?_
    unfold FeedRes at h
    unfold FeedPost
    exact h
/-- What Feed answers where there is no error: a stream x, bytes, and how many were read. -/
structure FedX (w w' : World) (s : Wv) (n : Nat) (b : List Nat) (s1 : Ss) (x : Wv) (T : Option Addr) (tn tc used : Nat) : Prop where
  only : Below w.heap.size w w'
  val : x.ok w'
  told : w'.ownsRow w.heap.size 5 1 (.slice T tn tc) tn (u8s s1.told)
  tn_ : tn = s1.told.length
  used_ : used = usedN s.nA n s1
  is : ∃ v I ci, x = fedV s.most.toNat s.made.toNat (s.lA ++ b) s1 v I (leftB (s.lA ++ b) s1).length ci ∧ FedMem w w' s.most.toNat s.made.toNat (s.lA ++ b) s1 v I ci
def FeedTo (w w' : World) (s : Wv) (n : Nat) (b : List Nat) (o : Except Nat Ss) (r : Ending) : Prop := match o with
  | .error e => FeedNo w w' e r
  | .ok s1 => ∃ (x : Wv) (T : Option Addr) (tn tc used : Nat), r = .returned (.tuple #[.agg (cellsOf 45 x.F), .slice T tn tc, .int .i64 (used : Int), .int .i64 0]) ∧ FedX w w' s n b s1 x T tn tc used
theorem feed_to {s : Wv} {w : World} (hs : s.ok w) {B : Option Addr} {n c : Nat} {b : List Nat} (hB : Rd w B (u8s b)) (hn : n = b.length) (hm : n ≤ 90000) (hx : ∀ x ∈ b, x < 256) {o : Except Nat Ss} (h : FeedIs s b o) :
    Calls Try.prog 8 #[.agg (cellsOf 45 s.F), .slice B n c] w fun r w' => FeedTo w w' s n b o r :=
  (feed_is hs hB hn hm hx h).mono fun r w' h => by
    cases o with
    | error e => exact h
    | ok s1 =>
      obtain ⟨v, I, ci, hr, hM⟩ : FedOk w w' s.most.toNat s.made.toNat s.nA n (s.lA ++ b) s1 r := h
      exact ⟨_, _, _, _, _, hr, hM.only, hM.val, hM.told, hM.nt_, rfl, v, I, ci, rfl, hM⟩
section
variable {w w' : World} {s : Wv} {n : Nat} {b : List Nat} {s1 : Ss} {x : Wv} {T : Option Addr} {tn tc used : Nat}
theorem FedX.made (h : FedX w w' s n b s1 x T tn tc used) : x.most = (s.most.toNat : Int) ∧ x.made = ((s.made.toNat + s1.told.length : Nat) : Int) := by
  obtain ⟨v, I, ci, rfl, _⟩ := h.is
  exact ⟨rfl, rfl⟩
theorem FedX.lw_ (h : FedX w w' s n b s1 x T tn tc used) : x.lw = s1.win ∧ x.nw = s1.win.length := by
  obtain ⟨v, I, ci, rfl, hm⟩ := h.is
  exact ⟨rfl, hm.nl_⟩
theorem FedX.lA_ (h : FedX w w' s n b s1 x T tn tc used) : x.lA = leftB (s.lA ++ b) s1 ∧ x.nA = (leftB (s.lA ++ b) s1).length := by
  obtain ⟨v, I, ci, rfl, hm⟩ := h.is
  exact ⟨rfl, rfl⟩
theorem FedX.over_ (h : FedX w w' s n b s1 x T tn tc used) : x.over = s1.over := by
  obtain ⟨v, I, ci, rfl, hm⟩ := h.is
  rfl
theorem FedX.rd (h : FedX w w' s n b s1 x T tn tc used) : Rd w' T (u8s s1.told) := own_rd h.told
theorem FedX.ck {lw : List Nat} (h : FedX w w' s n b s1 x T tn tc used) (hp : FedP s.most.toNat s.made.toNat (s.lA ++ b) lw s1) : ckS x = true := by
  obtain ⟨v, I, ci, rfl, hm⟩ := h.is
  exact hp.ck rfl hm.nl_
end
/-- A stream that goes on is so that may be, in numbers. -/
theorem FeedIs.p {s : Wv} {w : World} (hs : s.ok w) {b : List Nat} {s1 : Ss} (h : FeedIs s b (.ok s1)) : FedP s.most.toNat s.made.toNat (s.lA ++ b) s.lw s1 ∧ ckS s = true ∧ s.over = false ∧ 0 ≤ s.most ∧ 0 ≤ s.made ∧ s.made ≤ s.most := by
  rcases h with ⟨_, h⟩ | ⟨_, _, h⟩ | ⟨hck, hov, k, hk, h⟩
  · cases h
  · cases h
  · have h1 := hk.most
    have h2 := hk.made
    have h3 := hk.at0
    exact ⟨feed_p hs hk (by omega) (by omega) (a := s.at0.toNat) (by omega) h.symm, hck, hov, h1.1, h2.1, h2.2⟩
theorem FeedIs.err {s : Wv} {w : World} (hs : s.ok w) {b : List Nat} {e : Nat} (h : FeedIs s b (.error e)) : e ≠ 0 := by
  rcases h with ⟨_, h⟩ | ⟨_, _, h⟩ | ⟨hck, hov, k, hk, h⟩
  · cases h; decide
  · cases h; decide
  · have h3 := hk.at0
    exact run_err0 _ (hk.start (a := s.at0.toNat) (by omega) hs.lenA b) e h.symm
theorem Wv.inn.ok {s : Wv} {w : World} (h : s.inn w) (h1 : s.nA ≤ 1000) (h2 : s.nw ≤ 100000) (h3 : s.bk.m1 ≤ 1000) (h4 : s.bk.m2 ≤ 1000) : s.ok w :=
  ⟨h.rA, h.bA, h.lenA, h.capA, by omega, ⟨h.r1, h.l1, h.c1, by omega, h.r2, h.l2, h.c2, by omega⟩, h.rw_, h.bw, h.lenw, h.capw, by omega⟩

/-- A new stream. -/
def newV (most : Int) : Wv := ⟨most, 0, none, 0, 0, [], 0, zeroV, false, 32768, none, 0, 0, [], false⟩
def noV : Wv := ⟨0, 0, none, 0, 0, [], 0, zeroV, false, 0, none, 0, 0, [], false⟩
theorem newV_F (most : Int) : (newV most).F = swN most := rfl
theorem noV_F : noV.F = swZ := rfl
theorem newV_ok (most : Int) (w : World) : (newV most).ok w :=
  ⟨Rd.nil_, fun _ h => (by cases h), rfl, Nat.le_refl _, by show 0 ≤ 1000000; omega, zeroV_ok w, Rd.nil_, fun _ h => (by cases h), rfl, Nat.le_refl _, by show 0 ≤ 1000000; omega⟩
theorem noV_ok (w : World) : noV.ok w :=
  ⟨Rd.nil_, fun _ h => (by cases h), rfl, Nat.le_refl _, by show 0 ≤ 1000000; omega, zeroV_ok w, Rd.nil_, fun _ h => (by cases h), rfl, Nat.le_refl _, by show 0 ≤ 1000000; omega⟩
theorem snew_yes (most : Int) (w : World) (h0 : 0 ≤ most) (h1 : most ≤ 131072) : Calls Try.prog 7 #[.int .i64 most] w fun r w' => r = .returned (.tuple #[.agg (cellsOf 45 (swN most)), .int .i64 0]) ∧ Below w.heap.size w w' :=
  (snew_any most w).mono fun r w' ⟨hb, hr⟩ => by
    rw [if_pos ⟨h0, h1⟩, if_pos ⟨h0, h1⟩] at hr
    exact ⟨hr, hb⟩
theorem snew_no (most : Int) (w : World) (h : ¬ (0 ≤ most ∧ most ≤ 131072)) : Calls Try.prog 7 #[.int .i64 most] w fun r w' => r = .returned (.tuple #[.agg (cellsOf 45 swZ), .int .i64 2]) ∧ Below w.heap.size w w' :=
  (snew_any most w).mono fun r w' ⟨hb, hr⟩ => by
    rw [if_neg h, if_neg h] at hr
    exact ⟨hr, hb⟩
theorem newV_is (most : Nat) (h1 : most ≤ 131072) : CkIs (newV (most : Int)) none := by
  refine ⟨rfl, zero_cells (v := zeroV) (by decide), fun k' hk' => (by cases hk'), fun _ => ⟨rfl, rfl⟩, ⟨?_, ?_⟩, ⟨?_, ?_⟩, ⟨?_, ?_⟩, ?_, .inr rfl, fun h => (by cases h), rfl, rfl⟩
  · show (0 : Int) ≤ (most : Int); omega
  · show (most : Int) ≤ 131072; omega
  · show (0 : Int) ≤ 0; omega
  · show (0 : Int) ≤ (most : Int); omega
  · show (0 : Int) ≤ 0; omega
  · show (0 : Int) ≤ 7; omega
  · show 0 ≤ 600; omega
theorem newV_ck (most : Nat) (h1 : most ≤ 131072) : ckS (newV (most : Int)) = true := by
  have hi := newV_is most h1
  unfold ckS ckN ckI ckW ckO
  simp only [Bool.and_eq_true, Bool.or_eq_true, decide_eq_true_eq, Bool.not_eq_true']
  exact ⟨⟨hi.most.1, hi.most.2, hi.made.1, hi.made.2, hi.at0.1, hi.at0.2⟩, ⟨hi.nA, hi.in_, .inl rfl⟩, ⟨hi.size, hi.nw⟩, .inr ⟨rfl, (by show sameV zeroV zeroV = true; decide)⟩⟩
/-- From the beginning. -/
theorem newV_feed (most : Nat) (h1 : most ≤ 131072) (b : List Nat) : FeedIs (newV (most : Int)) b (runS most b ⟨0, none, false, [], []⟩) :=
  .inr (.inr ⟨newV_ck most h1, rfl, none, newV_is most h1, by
    show _ = runS ((most : Int).toNat - (0 : Int).toNat) ([] ++ b) ⟨(0 : Int).toNat, none, false, [], []⟩
    simp⟩)
/-- .. and on. -/
theorem fedV_feed {most made : Nat} {all lw : List Nat} {s1 : Ss} (hp : FedP most made all lw s1) {v : Sv} {I : Option Addr} {ni ci : Nat} (hni : ni = (leftB all s1).length) (hnl : v.nl = s1.win.length) (ho : s1.over = false) (b : List Nat) :
    FeedIs (fedV most made all s1 v I ni ci) b (runS (most - (made + s1.told.length)) (leftB all s1 ++ b) ⟨leftA s1, s1.k, false, s1.win, []⟩) :=
  .inr (.inr ⟨hp.ck hni hnl, ho, s1.k, hp.is hni hnl, by
    show _ = runS ((most : Int).toNat - ((made + s1.told.length : Nat) : Int).toNat) (leftB all s1 ++ b) ⟨((leftA s1 : Nat) : Int).toNat, s1.k, false, s1.win, []⟩
    simp only [Int.toNat_natCast]⟩)
theorem fedV_over {most made : Nat} {all lw : List Nat} {s1 : Ss} (hp : FedP most made all lw s1) {v : Sv} {I : Option Addr} {ni ci : Nat} (hni : ni = (leftB all s1).length) (hnl : v.nl = s1.win.length) (ho : s1.over = true) (b : List Nat) :
    FeedIs (fedV most made all s1 v I ni ci) b (.error 6) := .inr (.inl ⟨hp.ck hni hnl, ho, rfl⟩)

/-- What Great answers: true, or that all is small. -/
def GreatRes (w w' : World) (n nA nw m1 m2 : Nat) (most : Int) (r : Ending) : Prop := ∃ g : Bool, r = .returned (.bool g) ∧ Below w.heap.size w w' ∧ (g = false → n ≤ 300 ∧ nA ≤ 700 ∧ nw ≤ 4000 ∧ m1 ≤ 400 ∧ m2 ≤ 400 ∧ most ≤ 4000)
/-- .. on, from what Feed answered. -/
theorem FedX.next {w w' : World} {s : Wv} {n : Nat} {b : List Nat} {s1 : Ss} {x : Wv} {T : Option Addr} {tn tc used : Nat} {lw : List Nat} (h : FedX w w' s n b s1 x T tn tc used) (hp : FedP s.most.toNat s.made.toNat (s.lA ++ b) lw s1) (ho : s1.over = false) (c : List Nat) :
    FeedIs x c (runS (s.most.toNat - (s.made.toNat + s1.told.length)) (leftB (s.lA ++ b) s1 ++ c) ⟨leftA s1, s1.k, false, s1.win, []⟩) := by
  obtain ⟨v, I, ci, rfl, hm⟩ := h.is
  exact fedV_feed hp rfl hm.nl_ ho c
theorem FedX.none {w w' : World} {s : Wv} {n : Nat} {b : List Nat} {s1 : Ss} {x : Wv} {T : Option Addr} {tn tc used : Nat} {lw : List Nat} (h : FedX w w' s n b s1 x T tn tc used) (hp : FedP s.most.toNat s.made.toNat (s.lA ++ b) lw s1) (ho : s1.over = true) (c : List Nat) : FeedIs x c (.error 6) := by
  obtain ⟨v, I, ci, rfl, hm⟩ := h.is
  exact fedV_over hp rfl hm.nl_ ho c

set_option maxRecDepth 100000 in
set_option maxHeartbeats 4000000 in
/-- Are they more than statements go through? -/
theorem great_any (s : Wv) (B : Option Addr) (n c : Nat) (w : World) :
    Calls Try.prog 11 #[.agg (cellsOf 45 s.F), .slice B n c] w fun r w' => GreatRes w w' n s.nA s.nw s.bk.m1 s.bk.m2 s.most r := by
  have hb0 : Below w.heap.size w (w.alloc (.cells (cellsOf 45 s.F) 32)) := (Below.refl _ _).alloc (Nat.le_refl _) _
  have k0 : Arr (w.alloc (.cells (cellsOf 45 s.F) 32)) w.heap.size 32 45 s.F := Blk.new _ _ _
  obtain ⟨ms, ma, A, nA, cA, lA, at0, bk, op, size, Bw, nw, cw, lw, over⟩ := s
  obtain ⟨kd, la, le, f1, C1, m1, d1, x1, f2, C2, m2, d2, x2⟩ := bk
  have q0 := Arr.cell k0 0 (by omega)
  have q2 := Arr.cell k0 2 (by omega)
  have q23 := Arr.cell k0 23 (by omega)
  have q40 := Arr.cell k0 40 (by omega)
  have q43 := Arr.cell k0 43 (by omega)
  dsimp only
  unfold Wv.F Bv.F at *
  dsimp only at *
  go_enter Try.func11, Try.ntmps11
  go_upto_region 1 with (fail)
  change Code.wp _ _ _ _ (w.alloc (.cells (cellsOf 45 (swH ms ma (.slice A nA cA) at0 (bkH (kd : Int) la le f1 (.slice C1 m1 d1) f2 (.slice C2 m2 d2)) op size (.slice Bw nw cw) over)) 32))
  generalize w.alloc (.cells (cellsOf 45 (swH ms ma (.slice A nA cA) at0 (bkH (kd : Int) la le f1 (.slice C1 m1 d1) f2 (.slice C2 m2 d2)) op size (.slice Bw nw cw) over)) 32) = w0 at *
  replace q0 : w0.cell? ⟨w.heap.size, 0, none⟩ = some (.int .i64 ms) := q0
  replace q2 : w0.cell? ⟨w.heap.size, 2, none⟩ = some (.slice A nA cA) := q2
  replace q23 : w0.cell? ⟨w.heap.size, 23, none⟩ = some (.slice C1 m1 d1) := q23
  replace q40 : w0.cell? ⟨w.heap.size, 40, none⟩ = some (.slice C2 m2 d2) := q40
  replace q43 : w0.cell? ⟨w.heap.size, 43, none⟩ = some (.slice Bw nw cw) := q43
  clear k0
  by_cases h1 : 300 < n
  · have e1 : decide ((300 : Int) < (n : Int)) = true := decide_eq_true (by omega)
    go_wp2_with fail
    go_ret
    exact ⟨true, rfl, hb0, fun h => (by cases h)⟩
  have e1 : decide ((300 : Int) < (n : Int)) = false := decide_eq_false (by omega)
  by_cases h2 : 700 < nA
  · have e2 : decide ((700 : Int) < (nA : Int)) = true := decide_eq_true (by omega)
    go_wp2_with fail
    go_ret
    exact ⟨true, rfl, hb0, fun h => (by cases h)⟩
  have e2 : decide ((700 : Int) < (nA : Int)) = false := decide_eq_false (by omega)
  by_cases h3 : 4000 < nw
  · have e3 : decide ((4000 : Int) < (nw : Int)) = true := decide_eq_true (by omega)
    go_wp2_with fail
    go_ret
    exact ⟨true, rfl, hb0, fun h => (by cases h)⟩
  have e3 : decide ((4000 : Int) < (nw : Int)) = false := decide_eq_false (by omega)
  by_cases h4 : 400 < m1
  · have e4 : decide ((400 : Int) < (m1 : Int)) = true := decide_eq_true (by omega)
    go_wp2_with fail
    go_ret
    exact ⟨true, rfl, hb0, fun h => (by cases h)⟩
  have e4 : decide ((400 : Int) < (m1 : Int)) = false := decide_eq_false (by omega)
  by_cases h5 : 400 < m2
  · have e5 : decide ((400 : Int) < (m2 : Int)) = true := decide_eq_true (by omega)
    go_wp2_with fail
    go_ret
    exact ⟨true, rfl, hb0, fun h => (by cases h)⟩
  have e5 : decide ((400 : Int) < (m2 : Int)) = false := decide_eq_false (by omega)
  by_cases h6 : 4000 < ms
  · have e6 : decide ((4000 : Int) < ms) = true := decide_eq_true (by omega)
    go_wp2_with fail
    go_ret
    exact ⟨true, rfl, hb0, fun h => (by cases h)⟩
  have e6 : decide ((4000 : Int) < ms) = false := decide_eq_false (by omega)
  have HE := Lib.hid (And.intro h1 (And.intro h2 (And.intro h3 (And.intro h4 (And.intro h5 h6)))))
  go_wp2_with fail
  go_ret
  exact ⟨false, rfl, hb0, fun _ => by obtain ⟨h1, h2, h3, h4, h5, h6⟩ := HE.out; exact ⟨by omega, by omega, by omega, by omega, by omega, by omega⟩⟩

/-! ### Reckoned runs -/
set_option maxRecDepth 100000 in
theorem alive_b : (match runS 9 [75, 4] ⟨0, none, false, [], []⟩ with
    | .error _ => false
    | .ok s1 => s1.over == false && s1.told == [97] && match runS 8 (leftB [75, 4] s1 ++ [0, 255]) ⟨leftA s1, s1.k, false, s1.win, []⟩ with
      | .error _ => false
      | .ok s2 => s2.over == true && s2.told == [] && s2.a == 10 && (leftB [75, 4] s1).length == 1) = true := by decide +kernel
theorem alive_run : ∃ s1 s2, runS 9 [75, 4] ⟨0, none, false, [], []⟩ = .ok s1 ∧ s1.over = false ∧ s1.told = [97] ∧ runS 8 (leftB [75, 4] s1 ++ [0, 255]) ⟨leftA s1, s1.k, false, s1.win, []⟩ = .ok s2 ∧ s2.over = true ∧ s2.told = [] ∧ s2.a = 10 ∧ (leftB [75, 4] s1).length = 1 := by
  have h := alive_b
  cases h1 : runS 9 [75, 4] ⟨0, none, false, [], []⟩ with
  | error e => rw [h1] at h; cases h
  | ok s1 =>
    rw [h1] at h
    simp only [Bool.and_eq_true, beq_iff_eq] at h
    obtain ⟨⟨a1, a2⟩, h⟩ := h
    cases h2 : runS 8 (leftB [75, 4] s1 ++ [0, 255]) ⟨leftA s1, s1.k, false, s1.win, []⟩ with
    | error e => rw [h2] at h; cases h
    | ok s2 =>
      rw [h2] at h
      simp only [Bool.and_eq_true, beq_iff_eq] at h
      obtain ⟨⟨⟨b1, b2⟩, b3⟩, b4⟩ := h
      exact ⟨s1, s2, rfl, a1, a2, h2, b1, b2, b3, b4⟩
set_option maxRecDepth 100000 in
theorem names_b : (match runS 9 [75, 4, 0] ⟨0, none, false, [], []⟩ with
    | .error _ => false
    | .ok s1 => s1.over == true && s1.told == [97] && s1.a == 18) = true := by decide +kernel
theorem names_run : ∃ s1, runS 9 [75, 4, 0] ⟨0, none, false, [], []⟩ = .ok s1 ∧ s1.over = true ∧ s1.told = [97] ∧ s1.a = 18 := by
  have h := names_b
  cases h1 : runS 9 [75, 4, 0] ⟨0, none, false, [], []⟩ with
  | error e => rw [h1] at h; cases h
  | ok s1 =>
    rw [h1] at h
    simp only [Bool.and_eq_true, beq_iff_eq] at h
    exact ⟨s1, rfl, h.1.1, h.1.2, h.2⟩
set_option maxRecDepth 100000 in
theorem names_limit : (match runS 0 [75, 4, 0] ⟨0, none, false, [], []⟩ with
    | .error e => e
    | .ok _ => 0) = 140 := by decide +kernel
set_option maxRecDepth 100000 in
theorem names_kind : (match runS 9 [7] ⟨0, none, false, [], []⟩ with
    | .error e => e
    | .ok _ => 0) = 130 := by decide +kernel
theorem err_of {o : Except Nat Ss} {n : Nat} (h : (match o with | .error e => e | .ok _ => 0) = n) (hn : n ≠ 0) : o = .error n := by
  cases o with
  | error e => rw [show e = n from h]
  | ok s => exact absurd h.symm hn
end Go.Proofs.Ytahboomghjdjhaa

/-
  Walks: alive of swell's laws.
-/
namespace Go.Proofs.Ytahboomghjdjhaa
open Go.RowKit

theorem box_sw {w w1 w2 : World} {o : Obj} (hb1 : Below w.heap.size w w1) (g2 : (w1.alloc o).grownBy w2 (some w1.heap.size)) : Below w.heap.size w w2 :=
  Below.then_only (hb1.alloc hb1.size _) g2 (by simp; have := hb1.size; omega) hb1.size
theorem conv_row (w : World) {A : Option Addr} {n : Nat} {l : List Nat} (h : Rd w A (u8s l)) (hb : ∀ x ∈ l, x < 256) (hn : n = l.length) (c : Nat) : (convert 22 9 (.slice A n c)).run Try.prog w = .ok (.string (str l)) w := by
  subst hn
  exact conv_bytes (P := Try.prog) w 22 5 Try.underlying22 Try.underlying5 9 Try.underlying9 A l c (rd_u8 h hb) (fun e => by have := h.2 e; simpa [u8s] using this)
theorem usedN_le {s1 : Ss} {lA b : List Nat} {nA n : Nat} (ha : s1.a ≤ 8 * (lA ++ b).length) (hA : nA = lA.length) (hb : b.length = n) : usedN nA n s1 ≤ n := by
  unfold usedN
  rw [List.length_append] at ha
  split <;> omega
theorem wv_one (s : Wv) (i : Nat) : (s.F i).oneCell' = true := swH_one _ _ _ _ _ _ _ _ _ _ _ _ _ i
set_option maxRecDepth 100000 in
set_option maxHeartbeats 8000000 in
theorem sw_alive (w : World) : Calls Try.prog 9 #[] w fun e w' => e = .returned (.bool true) ∧ Below w.heap.size w w' := by
  obtain ⟨s1, s2, r1, o1, t1, r2, o2, t2, a2, l2⟩ := alive_run
  have F1 : FeedIs (newV 9) [75, 4] (.ok s1) := r1 ▸ newV_feed 9 (by omega) [75, 4]
  have P1 : FedP (newV 9).most.toNat (newV 9).made.toNat ((newV 9).lA ++ [75, 4]) (newV 9).lw s1 := (F1.p (newV_ok 9 w)).1
  have r2' : runS ((newV 9).most.toNat - ((newV 9).made.toNat + s1.told.length)) (leftB ((newV 9).lA ++ [75, 4]) s1 ++ [0, 255]) ⟨leftA s1, s1.k, false, s1.win, []⟩ = .ok s2 := by rw [t1]; exact r2
  have hby1 : ∀ x ∈ [75, 4], x < 256 := by decide
  have hby2 : ∀ x ∈ [0, 255], x < 256 := by decide
  have hu1 : (#[.int .u8 75, .int .u8 4] : Array Value).toList = u8s [75, 4] := rfl
  have hu2 : (#[.int .u8 0, .int .u8 255] : Array Value).toList = u8s [0, 255] := rfl
  have H := Lib.hid (And.intro o1 (And.intro t1 (And.intro r2' (And.intro o2 (And.intro t2 (And.intro a2 l2))))))
  obtain ⟨b1, hb1'⟩ : ∃ b, b = [75, 4] := ⟨_, rfl⟩
  obtain ⟨b2, hb2'⟩ : ∃ b, b = [0, 255] := ⟨_, rfl⟩
  have n1 : 2 = b1.length := by rw [hb1']; rfl
  have n2 : 2 = b2.length := by rw [hb2']; rfl
  rw [← hb1'] at F1 P1 hby1 hu1 H
  rw [← hb2'] at hby2 hu2 H
  have HB := Lib.hid (And.intro hb1' hb2')
  have HU := Lib.hid (And.intro hu1 hu2)
  have HY := Lib.hid (And.intro hby1 hby2)
  have HN := Lib.hid (And.intro n1 n2)
  have HF1 := Lib.hid F1
  have HP1 := Lib.hid P1
  clear r1 r2 o1 t1 o2 t2 a2 l2 F1 P1 r2' hby1 hby2 hu1 hu2 hb1' hb2' n1 n2
  go_enter Try.func9, Try.ntmps9
  go_upto_region 2 with (first
    | (go_at_call 7; refine (snew_yes 9 _ (by omega) (by omega)).mono ?_; rintro e w1 ⟨rfl, hb1⟩)
    | (refine store_over rfl 32 (.tmp 1) (.tmp 13) (f := swN 9) (f0 := swZ) rfl rfl rfl (Blk.new _ _ _) sw_size (fun i _ => swH_one _ _ _ _ _ _ _ _ _ _ _ _ _ i) ?_; intro w2 k2 g2))
  have hb2 := box_sw hb1 g2
  have hcv1 := conv_const w2 w2.heap.size #[.int .u8 75, .int .u8 4] 2 2 rfl
  have hrd1 := (new_bytes w2 (some ⟨w2.heap.size, 0, none⟩) b1 #[.int .u8 75, .int .u8 4] 5 (2, 3) rfl HU.out.1 HY.out.1).rd (fun h => by cases h)
  have hb2a : Below w.heap.size w (w2.alloc (.cells #[.int .u8 75, .int .u8 4] 5 (2, 3))) := hb2.alloc hb2.size _
  clear hb1 g2 hb2
  go_upto_region 3 with (first
    | (refine load_arr rfl 32 (.tmp 1) rfl rfl k2 Try.underlying32 rfl sw_size ?_)
    | (go_at_call 8; refine (feed_to (newV_ok 9 _) hrd1 HN.out.1 (by omega) HY.out.1 HF1.out).mono ?_; rintro e w3 ⟨X1, T1, tn1, tc1, u1, rfl, M1⟩; have hone := wv_one X1; generalize hXF : X1.F = XF at *)
    | (refine store_over rfl 32 (.tmp 3) (.tmp 20) (f := XF) (f0 := swZ) rfl rfl rfl (Blk.new _ _ _) sw_size (fun i _ => hone i) ?_; intro w4 k4 g4))
  have hb3 := hb2a.trans (M1.only.mono hb2a.size)
  have hb4 := box_sw hb3 g4
  have hb34 := box_sw (Below.refl _ _) g4
  have hok4 := M1.val.below hb34
  have hT4 := own_below M1.told hb34
  have hc4 : (XF 44) = .bool s1.over := by rw [← hXF, ← M1.over_]; rfl
  have hF2 : FeedIs X1 b2 (.ok s2) := by have := M1.next HP1.out H.out.1 b2; rw [H.out.2.2.1] at this; exact this
  have etn1 : tn1 = 1 := by rw [M1.tn_, H.out.2.1]; rfl
  have eu1 : u1 = 2 := by rw [M1.used_]; unfold usedN; rw [H.out.1]; rfl
  have hnA : X1.nA = 1 := M1.lA_.2.trans H.out.2.2.2.2.2.2
  have HNA := Lib.hid hnA
  subst etn1 eu1
  have hcv2 := conv_const w4 w4.heap.size #[.int .u8 0, .int .u8 255] 2 2 rfl
  have hrd2 := (new_bytes w4 (some ⟨w4.heap.size, 0, none⟩) b2 #[.int .u8 0, .int .u8 255] 5 (2, 3) rfl HU.out.2 HY.out.2).rd (fun h => by cases h)
  have hb44a : Below w4.heap.size w4 (w4.alloc (.cells #[.int .u8 0, .int .u8 255] 5 (2, 3))) := (Below.refl _ _).alloc (Nat.le_refl _) _
  have hb4a := hb4.trans (hb44a.mono hb4.size)
  have HC2 := Lib.hid (feed_to (c := 2) (hok4.below hb44a) hrd2 HN.out.2 (by omega) HY.out.2 hF2)
  rw [hXF] at HC2
  have hT4a := own_below hT4 hb44a
  have k4a := Arr.below k4 hb44a (Blk.lt k4)
  have HC4 := Lib.hid hc4
  clear hb3 hb34 hok4 hF2 hnA hb4 hb44a hT4 hXF g4 k2 hcv1 hrd1 hb2a M1 hc4
  go_upto_region 4 with (first
    | (refine load_arr rfl 32 (.tmp 3) rfl rfl k4 Try.underlying32 rfl sw_size ?_)
    | (go_at_call 8; refine HC2.out.mono ?_; rintro e w5 ⟨X2, T2, tn2, tc2, u2, rfl, M2⟩; have hone2 := wv_one X2; generalize hXF2 : X2.F = XF2 at *)
    | (refine store_over rfl 32 (.tmp 7) (.tmp 29) (f := XF2) (f0 := swZ) rfl rfl rfl (Blk.new _ _ _) sw_size (fun i _ => hone2 i) ?_; intro w6 k6 g6))
  have hb5 := hb4a.trans (M2.only.mono hb4a.size)
  have hb6 := box_sw hb5 g6
  have hb56 := box_sw (Below.refl _ _) g6
  have hT6 := own_below (own_below hT4a M2.only) hb56
  have k46 := Arr.below (Arr.below k4a M2.only (Blk.lt k4a)) hb56 (Nat.lt_of_lt_of_le (Blk.lt k4a) M2.only.size)
  have etn2 : tn2 = 0 := by rw [M2.tn_, H.out.2.2.2.2.1]; rfl
  have eu2 : u2 = 1 := by rw [M2.used_, HNA.out]; unfold usedN; rw [H.out.2.2.2.1, H.out.2.2.2.2.2.1]; rfl
  subst etn2 eu2
  have c44x : w6.cell? ⟨w3.heap.size, 44, none⟩ = some (.bool false) := (Arr.cell k46 44 (by omega)).trans (congrArg some (by rw [HC4.out, H.out.1]))
  have c44y : w6.cell? ⟨w5.heap.size, 44, none⟩ = some (.bool true) := (Arr.cell k6 44 (by omega)).trans (congrArg some (by rw [← hXF2]; show Value.bool X2.over = _; rw [M2.over_, H.out.2.2.2.1]))
  have hcv := conv_bytes (P := Try.prog) w6 22 5 Try.underlying22 Try.underlying5 9 Try.underlying9 T1 [97] tc1 (rd_u8 (by have := own_rd hT6; rwa [H.out.2.1] at this) (by decide)) (fun h => by have := (own_rd hT6).2 h; rw [H.out.2.1] at this; simp [u8s] at this)
  have hs : str [97] = ⟨#[97]⟩ := rfl
  rw [hs] at hcv
  replace hcv : (convert 22 9 (.slice T1 1 tc1)).run Try.prog w6 = .ok (.string ⟨#[97]⟩) w6 := hcv
  clear k46 k4 k4a k6 hT6 hT4a hb5 hb56 g6 M2 hs hcv2 hrd2 hb4a
  go_wp2_with fail
  go_ret
  exact ⟨rfl, hb6⟩
end Go.Proofs.Ytahboomghjdjhaa

/-
  Bytes in two parts: what Feed answers, and a region that appends, calls Feed and keeps what it answers. No walk.
-/
namespace Go.Proofs.Ytahboomghjdjhaa
open Go.RowKit

section
variable {P : Program}
/-- append, as an operation. -/
theorem lands_grow {o : Oper} {a : Act} {w : World} {D : Value → World → Prop} {t e : TypeId} {size bytes : Nat} (E : Elem P t e size bytes) (s x : Operand)
    (ho : o.op = .call { callee := .builtin .append, args := #[s, x], argTypes := #[t, t] })
    {base : Nat} {A : Option Addr} {n c : Nat} {xs : List Value} (hs : a.eval s = .slice A n c) (hown : w.ownsRow base e size (.slice A n c) n xs) (hbase : base ≤ w.heap.size)
    {B : Option Addr} {m d : Nat} {news : List Value} (hx : a.eval x = .slice B m d) (hr : Rd w B news) (hlen : news.length = m * size) (h1 : ∀ u ∈ news, u.oneCell' = true)
    (k : Nat) (hk : n + m = k) (ys : List Value) (hys : xs ++ news = ys) (h63 : k ≤ 1000000000) (hby : bytes ≤ 1000)
    (h : ∀ A' c' w', w'.ownsRow base e size (.slice A' k c') k ys → w.grownBy w' (Value.slice A n c).ownBlock → D (.slice A' k c') w') : lands P D ((execOp a.eval o).run P w) := by
  subst hk hys
  obtain ⟨A', c', w', hrun, h2, h3⟩ := run_grow_own E o.type hown hbase d hr hlen h1 h63 hby
  unfold execOp
  simp only [ho, resolve, invoke, builtin, Sem.run_bind, Sem.run_pure, Result.andThen_ok, List.map_toArray, List.map_cons, List.map_nil, hs, hx, hrun]
  exact h A' c' w' h2 h3
end

section
variable {W w1 w w' : World} {most made : Nat} {all : List Nat} {s1 : Ss} {v : Sv} {I : Option Addr} {ci : Nat} {s : Wv} {n : Nat} {b : List Nat} {x : Wv} {T : Option Addr} {tn tc u g : Nat} {cs : Array Value}
theorem FedMem.base (hb : Below W.heap.size W w1) (h : FedMem w1 w most made all s1 v I ci) : FedMem W w most made all s1 v I ci :=
  ⟨hb.trans (h.only.mono hb.size), h.val, own_far_base h.told hb.size, h.nt_, h.nl_, own_far_base h.win hb.size, own_far_base h.in_ hb.size, h.sym.imp id fun o => own_far_base o hb.size, h.sym2.imp id fun o => own_far_base o hb.size, h.apart⟩
theorem FedMem.below (h : FedMem W w most made all s1 v I ci) (hb : Below w.heap.size w w') : FedMem W w' most made all s1 v I ci :=
  ⟨h.only.trans (hb.mono h.only.size), h.val.below hb, own_below h.told hb, h.nt_, h.nl_, own_below h.win hb, own_below h.in_ hb, h.sym.imp id fun o => own_below o hb, h.sym2.imp id fun o => own_below o hb, h.apart⟩
theorem OwnOr.rd {C : Option Addr} {m d : Nat} {xs : List Int} {base : Nat} (h : OwnOr w base C m d xs) : Rd w C (ints xs) := h.elim (fun ⟨e, _⟩ => by subst e; exact ⟨fun hn => by simp [ints] at hn, fun _ => rfl⟩) fun o => own_rd o
theorem FedMem.grown (h : FedMem W w most made all s1 v I ci) (k : Blk w g 32 cs) (hg : w.grownBy w' (some g)) (hge : W.heap.size ≤ g) : FedMem W w' most made all s1 v I ci := by
  have o1 := own_only h.told k (by decide) hg
  have o2 := own_only h.win k (by decide) hg
  have o3 := own_only h.in_ k (by decide) hg
  have o4 : OwnOr w' W.heap.size v.C1 v.m1 v.d1 (bkV s1.k v).x1 := h.sym.imp id fun o => own_only o k (by decide) hg
  have o5 : OwnOr w' W.heap.size v.C2 v.m2 v.d2 (bkV s1.k v).x2 := h.sym2.imp id fun o => own_only o k (by decide) hg
  have e1 : (bkV s1.k v).C1 = v.C1 := by cases s1.k <;> rfl
  have e2 : (bkV s1.k v).C2 = v.C2 := by cases s1.k <;> rfl
  have hv := h.val
  refine ⟨Below.then_only h.only hg h.only.size hge, ⟨own_rd o3, hv.bA, hv.lenA, hv.capA, hv.maxA, ⟨?_, hv.bk.l1, hv.bk.c1, hv.bk.b1, ?_, hv.bk.l2, hv.bk.c2, hv.bk.b2⟩, own_rd o2, hv.bw, hv.lenw, hv.capw, hv.maxw⟩, o1, h.nt_, h.nl_, o2, o3, o4, o5, h.apart⟩
  · show Rd w' (bkV s1.k v).C1 (ints (bkV s1.k v).x1)
    rw [e1]
    exact o4.rd
  · show Rd w' (bkV s1.k v).C2 (ints (bkV s1.k v).x2)
    rw [e2]
    exact o5.rd
theorem FedX.base (hb : Below W.heap.size W w1) (h : FedX w1 w s n b s1 x T tn tc u) : FedX W w s n b s1 x T tn tc u := by
  obtain ⟨v, I, ci, hx, hm⟩ := h.is
  exact ⟨hb.trans (h.only.mono hb.size), h.val, own_far_base h.told hb.size, h.tn_, h.used_, v, I, ci, hx, hm.base hb⟩
theorem FedX.below (h : FedX W w s n b s1 x T tn tc u) (hb : Below w.heap.size w w') : FedX W w' s n b s1 x T tn tc u := by
  obtain ⟨v, I, ci, hx, hm⟩ := h.is
  exact ⟨h.only.trans (hb.mono h.only.size), h.val.below hb, own_below h.told hb, h.tn_, h.used_, v, I, ci, hx, hm.below hb⟩
theorem FedX.grown (h : FedX W w s n b s1 x T tn tc u) (k : Blk w g 32 cs) (hg : w.grownBy w' (some g)) (hge : W.heap.size ≤ g) : FedX W w' s n b s1 x T tn tc u := by
  obtain ⟨v, I, ci, hx, hm⟩ := h.is
  have hm' := hm.grown k hg hge
  exact ⟨hm'.only, by rw [hx]; exact hm'.val, own_only h.told k (by decide) hg, h.tn_, h.used_, v, I, ci, hx, hm'⟩
end

/-- What a call of Feed has answered. -/
def FeedAt (W w : World) (s : Wv) (n : Nat) (b : List Nat) (o : Except Nat Ss) (v : Value) : Prop := match o with
  | .error e => v = .tuple #[.agg (cellsOf 45 swZ), .slice none 0 0, .int .i64 0, .int .i64 (e : Int)]
  | .ok s1 => ∃ (x : Wv) (T : Option Addr) (tn tc used : Nat), v = .tuple #[.agg (cellsOf 45 x.F), .slice T tn tc, .int .i64 (used : Int), .int .i64 0] ∧ FedX W w s n b s1 x T tn tc used
section
variable {W w1 w w' : World} {s : Wv} {n : Nat} {b : List Nat} {o : Except Nat Ss} {v : Value} {g : Nat} {cs : Array Value}
theorem FeedTo.at_ {r : Ending} (hb : Below W.heap.size W w1) (h : FeedTo w1 w s n b o r) : ∃ v, r = .returned v ∧ FeedAt W w s n b o v ∧ Below w1.heap.size w1 w := by
  cases o with
  | error e => exact ⟨_, h.2, rfl, h.1⟩
  | ok s1 =>
    obtain ⟨x, T, tn, tc, u, hr, hx⟩ : ∃ (x : Wv) (T : Option Addr) (tn tc used : Nat), r = .returned (.tuple #[.agg (cellsOf 45 x.F), .slice T tn tc, .int .i64 (used : Int), .int .i64 0]) ∧ FedX w1 w s n b s1 x T tn tc used := h
    exact ⟨_, hr, ⟨x, T, tn, tc, u, rfl, hx.base hb⟩, hx.only⟩
theorem FeedAt.below (h : FeedAt W w s n b o v) (hb : Below w.heap.size w w') : FeedAt W w' s n b o v := by
  cases o with
  | error e => exact h
  | ok s1 =>
    obtain ⟨x, T, tn, tc, u, hr, hx⟩ := h
    exact ⟨x, T, tn, tc, u, hr, hx.below hb⟩
theorem FeedAt.grown (h : FeedAt W w s n b o v) (k : Blk w g 32 cs) (hg : w.grownBy w' (some g)) (hge : W.heap.size ≤ g) : FeedAt W w' s n b o v := by
  cases o with
  | error e => exact h
  | ok s1 =>
    obtain ⟨x, T, tn, tc, u, hr, hx⟩ := h
    exact ⟨x, T, tn, tc, u, hr, hx.grown k hg hge⟩
/-- It is a stream and three values. -/
theorem FeedAt.shape (h : FeedAt W w s n b o v) : ∃ (f : Nat → Value) (T : Option Addr) (tn tc : Nat) (u e : Int), v = .tuple #[.agg (cellsOf 45 f), .slice T tn tc, .int .i64 u, .int .i64 e] ∧ ∀ i, (f i).oneCell' = true := by
  cases o with
  | error e => exact ⟨swZ, none, 0, 0, 0, (e : Int), h, fun i => swH_one _ _ _ _ _ _ _ _ _ _ _ _ _ i⟩
  | ok s1 =>
    obtain ⟨x, T, tn, tc, u, hr, hx⟩ := h
    exact ⟨x.F, T, tn, tc, (u : Int), 0, hr, wv_one x⟩
end
/-- The worlds of a region that appends twice, calls Feed, makes a variable and keeps the stream there. -/
def parD (W : World) (s : Wv) (n m : Nat) (la lb : List Nat) (o : Except Nat Ss) (k : Nat) (f : Bool) (vs : Nat → Value) (va : Value) (w : World) : Prop :=
  Below W.heap.size W w ∧
  (k = 1 → ∃ A c, vs 0 = .slice A n c ∧ w.ownsRow W.heap.size 5 1 (.slice A n c) n (u8s la)) ∧
  (k = 2 → ∃ A c, vs 1 = .slice A (n + m) c ∧ w.ownsRow W.heap.size 5 1 (.slice A (n + m) c) (n + m) (u8s (la ++ lb))) ∧
  (3 ≤ k → FeedAt W w s (n + m) (la ++ lb) o (vs 2)) ∧
  (f = true → ∃ g cf, va = .pointer (some ⟨g, 0, none⟩) ∧ W.heap.size ≤ g ∧ Arr w g 32 45 cf ∧ (k ≤ 5 → cf = swZ) ∧ (6 ≤ k → vs 4 = .agg (cellsOf 45 cf))) ∧
  (6 ≤ k → f = true)
section
variable {W w w' : World} {s : Wv} {n m : Nat} {la lb : List Nat} {o : Except Nat Ss} {f : Bool} {vs vs' : Nat → Value} {va : Value}
theorem parD_start : parD W s n m la lb o 0 false vs va W :=
  ⟨Below.refl _ _, fun h => (by cases h), fun h => (by cases h), fun h => absurd h (by omega), fun h => (by cases h), fun h => absurd h (by omega)⟩
theorem parD_1 (h : parD W s n m la lb o 0 f vs va w) {A : Option Addr} {c : Nat} (hv : vs' 0 = .slice A n c) (ho : w'.ownsRow W.heap.size 5 1 (.slice A n c) n (u8s la)) (hg : w.grownBy w' none) : parD W s n m la lb o 1 f vs' va w' := by
  obtain ⟨h0, _, _, _, h4, _⟩ := h
  have hb : Below w.heap.size w w' := ⟨hg.os, hg.tape, hg.output, hg.size, fun k hk => hg.block k hk (fun e => by cases e)⟩
  refine ⟨h0.trans (hb.mono h0.size), fun _ => ⟨A, c, hv, ho⟩, fun h => (by cases h), fun h => absurd h (by omega), fun hf => ?_, fun h => absurd h (by omega)⟩
  obtain ⟨g, cf, e1, e2, e3, e4, e5⟩ := h4 hf
  exact ⟨g, cf, e1, e2, Arr.below e3 hb (Blk.lt e3), fun _ => e4 (by omega), fun h => absurd h (by omega)⟩
theorem parD_2 (h : parD W s n m la lb o 1 f vs va w) {A0 A : Option Addr} {c0 c : Nat} (ho0 : w.ownsRow W.heap.size 5 1 (.slice A0 n c0) n (u8s la)) (hv : vs' 1 = .slice A (n + m) c) (ho : w'.ownsRow W.heap.size 5 1 (.slice A (n + m) c) (n + m) (u8s (la ++ lb))) (hg : w.grownBy w' (Value.slice A0 n c0).ownBlock) : parD W s n m la lb o 2 f vs' va w' := by
  obtain ⟨h0, _, _, _, h4, _⟩ := h
  have hb := below_own ho0 hg h0.size
  refine ⟨h0.trans hb, fun h => (by cases h), fun _ => ⟨A, c, hv, ho⟩, fun h => absurd h (by omega), fun hf => ?_, fun h => absurd h (by omega)⟩
  obtain ⟨g, cf, e1, e2, e3, e4, e5⟩ := h4 hf
  exact ⟨g, cf, e1, e2, Blk.grown e3 hg (own_blk_ne ho0 e3 (by decide)).symm, fun _ => e4 (by omega), fun h => absurd h (by omega)⟩
theorem parD_3 (h : parD W s n m la lb o 2 f vs va w) (hv : FeedAt W w' s (n + m) (la ++ lb) o (vs' 2)) (hb : Below w.heap.size w w') : parD W s n m la lb o 3 f vs' va w' := by
  obtain ⟨h0, _, _, _, h4, _⟩ := h
  refine ⟨h0.trans (hb.mono h0.size), fun h => (by cases h), fun h => (by cases h), fun _ => hv, fun hf => ?_, fun h => absurd h (by omega)⟩
  obtain ⟨g, cf, e1, e2, e3, e4, e5⟩ := h4 hf
  exact ⟨g, cf, e1, e2, Arr.below e3 hb (Blk.lt e3), fun _ => e4 (by omega), fun h => absurd h (by omega)⟩
theorem parD_on {k : Nat} (h : parD W s n m la lb o k f vs va w) (h3 : 3 ≤ k) (h5 : k ≤ 4) (hv : vs' 2 = vs 2) : parD W s n m la lb o (k + 1) f vs' va w := by
  obtain ⟨h0, _, _, h1, h4, _⟩ := h
  refine ⟨h0, fun h => absurd h (by omega), fun h => absurd h (by omega), fun _ => by rw [hv]; exact h1 h3, fun hf => ?_, fun h => absurd h (by omega)⟩
  obtain ⟨g, cf, e1, e2, e3, e4, e5⟩ := h4 hf
  exact ⟨g, cf, e1, e2, e3, fun _ => e4 (by omega), fun h => absurd h (by omega)⟩
theorem parD_6 (h : parD W s n m la lb o 5 f vs va w) (hf : f = true) {g : Nat} {f0 cf : Nat → Value} (hva : va = .pointer (some ⟨g, 0, none⟩)) (hge : W.heap.size ≤ g) (k : Arr w g 32 45 f0) (k' : Arr w' g 32 45 cf) (hg : w.grownBy w' (some g)) (hv : vs' 2 = vs 2) (hq : vs' 4 = .agg (cellsOf 45 cf)) : parD W s n m la lb o 6 f vs' va w' := by
  obtain ⟨h0, _, _, h3, h4, _⟩ := h
  exact ⟨Below.then_only h0 hg h0.size hge, fun h => absurd h (by omega), fun h => absurd h (by omega), fun _ => (by rw [hv]; exact (h3 (by omega)).grown k hg hge), fun _ => ⟨g, cf, hva, hge, k', fun h => absurd h (by omega), fun _ => hq⟩, fun _ => hf⟩
theorem parD_free {k : Nat} (h : parD W s n m la lb o k false vs va w) : parD W s n m la lb o k true vs (.pointer (some ⟨w.heap.size, 0, none⟩)) (w.alloc (.cells (cellsOf 45 swZ) 32)) := by
  obtain ⟨h0, h1, h2, h3, h4, h5⟩ := h
  have hk : ¬ 6 ≤ k := fun h => (by cases h5 h)
  have hb : Below w.heap.size w (w.alloc (.cells (cellsOf 45 swZ) 32)) := (Below.refl _ _).alloc (Nat.le_refl _) _
  refine ⟨h0.alloc h0.size _, fun h => ?_, fun h => ?_, fun h => (h3 h).below hb, fun _ => ⟨w.heap.size, swZ, rfl, h0.size, Blk.new _ _ _, fun _ => rfl, fun h => absurd h hk⟩, fun h => absurd h hk⟩
  · obtain ⟨A, c, e1, e2⟩ := h1 h; exact ⟨A, c, e1, own_below e2 hb⟩
  · obtain ⟨A, c, e1, e2⟩ := h2 h; exact ⟨A, c, e1, own_below e2 hb⟩
theorem parD_bel {k : Nat} (h : parD W s n m la lb o k f vs va w) : Below W.heap.size W w := h.1
end

/-! ### Two parts -/
section
variable {s : Wv} {w : World} {a b : List Nat}
theorem parts_err {e : Nat} (hs : s.ok w) (h : FeedIs s a (.error e)) : FeedIs s (a ++ b) (.error e) := by
  rcases h with ⟨hck, h⟩ | ⟨hck, hov, h⟩ | ⟨hck, hov, k, hk, h⟩
  · exact .inl ⟨hck, h⟩
  · exact .inr (.inl ⟨hck, hov, h⟩)
  · have h3 := hk.at0
    refine .inr (.inr ⟨hck, hov, k, hk, ?_⟩)
    rw [← List.append_assoc]
    exact (run_parts_err (hk.start (a := s.at0.toNat) (by omega) hs.lenA a) h.symm).symm
theorem parts_over {s1 : Ss} (hs : s.ok w) (h : FeedIs s a (.ok s1)) (ho : s1.over = true) : FeedIs s (a ++ b) (.ok s1) := by
  rcases h with ⟨hck, h⟩ | ⟨hck, hov, h⟩ | ⟨hck, hov, k, hk, h⟩
  · cases h
  · cases h
  · have h3 := hk.at0
    refine .inr (.inr ⟨hck, hov, k, hk, ?_⟩)
    rw [← List.append_assoc]
    exact (run_parts_over (hk.start (a := s.at0.toNat) (by omega) hs.lenA a) h.symm ho).symm
theorem parts_on {s1 : Ss} (hs : s.ok w) (h : FeedIs s a (.ok s1)) (ho : s1.over = false) :
    FeedIs s (a ++ b) (mvE (s1.a / 8) s1.told (runS (s.most.toNat - (s.made.toNat + s1.told.length)) (leftB (s.lA ++ a) s1 ++ b) ⟨leftA s1, s1.k, false, s1.win, []⟩)) ∧
    runS (s.most.toNat - s.made.toNat) ((s.lA ++ a) ++ b) s1 = mvE (s1.a / 8) s1.told (runS (s.most.toNat - (s.made.toNat + s1.told.length)) (leftB (s.lA ++ a) s1 ++ b) ⟨leftA s1, s1.k, false, s1.win, []⟩) := by
  have hp := (h.p hs).1
  rcases h with ⟨hck, h⟩ | ⟨hck, hov, h⟩ | ⟨hck, hov, k, hk, h⟩
  · cases h
  · cases h
  · have h3 := hk.at0
    have h4 := run_parts (b := b) (hk.start (a := s.at0.toNat) (by omega) hs.lenA a) h.symm (by have := hp.room; omega) ho
    have h5 := runS_app (room := s.most.toNat - s.made.toNat) (b := s.lA ++ a) b _ (hk.start (a := s.at0.toNat) (by omega) hs.lenA a)
    rw [← h] at h5
    have e : mvE (s1.a / 8) s1.told (runS (s.most.toNat - (s.made.toNat + s1.told.length)) (leftB (s.lA ++ a) s1 ++ b) ⟨leftA s1, s1.k, false, s1.win, []⟩) = runS (s.most.toNat - s.made.toNat) ((s.lA ++ a) ++ b) ⟨s.at0.toNat, k, false, s.lw, []⟩ := by
      rw [h4]
      unfold leftB leftA
      rw [ho, Nat.sub_sub]
      rfl
    refine ⟨.inr (.inr ⟨hck, hov, k, hk, ?_⟩), ?_⟩
    · rw [← List.append_assoc]
      exact e
    · rw [e]
      exact h5.symm
end
theorem bkV_same (k : Option Bk) (v v' : Sv) : sameV (bkV k v) (bkV k v') = true := by
  cases k with
  | none => unfold sameV bkV; simp [sameT_refl]
  | some k => unfold sameV bkV; simp [sameT_refl]
theorem fedV_same {most made : Nat} {all : List Nat} {s1 : Ss} {v v' : Sv} {I I' : Option Addr} {ni ni' ci ci' : Nat} : sameW (fedV most made all s1 v I ni ci) (fedV most made all s1 v' I' ni' ci') = true := by
  unfold sameW fedV
  simp [bkV_same]
/-- A stream that was over ahead of the second part is the same. -/
theorem fedV_over_same {most made : Nat} {all all' : List Nat} {s1 : Ss} (ho : s1.over = true) {v v' : Sv} {I I' : Option Addr} {ni ni' ci ci' : Nat} : sameW (fedV most made all s1 v I ni ci) (fedV most made all' s1 v' I' ni' ci') = true := by
  have e1 : leftB all s1 = [] := by unfold leftB; rw [ho]; rfl
  have e2 : leftB all' s1 = [] := by unfold leftB; rw [ho]; rfl
  unfold sameW fedV
  dsimp only
  rw [e1, e2]
  simp [bkV_same]
theorem left_mv {lA a b : List Nat} {s1 s2 : Ss} (ho : s1.over = false) (hat : s1.a ≤ 8 * (lA ++ a).length) : leftB (lA ++ (a ++ b)) (mvS (s1.a / 8) s1.told s2) = leftB (leftB (lA ++ a) s1 ++ b) s2 := by
  have e1 : leftB (lA ++ a) s1 = (lA ++ a).drop (s1.a / 8) := by unfold leftB; rw [ho]; rfl
  rw [e1]
  unfold leftB mvS
  dsimp only
  split
  · rfl
  · rw [← List.append_assoc, show (s2.a + 8 * (s1.a / 8)) / 8 = s1.a / 8 + s2.a / 8 by omega, ← List.drop_drop, List.drop_append_of_le_length (by omega)]
theorem fedV_mv {most made : Nat} {lA a b : List Nat} {s1 s2 : Ss} (ho : s1.over = false) (hat : s1.a ≤ 8 * (lA ++ a).length) {v v' : Sv} {I I' : Option Addr} {ni ni' ci ci' : Nat} :
    sameW (fedV most made (lA ++ (a ++ b)) (mvS (s1.a / 8) s1.told s2) v I ni ci) (fedV most (made + s1.told.length) (leftB (lA ++ a) s1 ++ b) s2 v' I' ni' ci') = true := by
  have e1 := left_mv (b := b) (s2 := s2) ho hat
  have e2 : leftA (mvS (s1.a / 8) s1.told s2) = leftA s2 := by
    unfold leftA mvS
    dsimp only
    split
    · rfl
    · omega
  unfold sameW fedV
  dsimp only
  rw [e1, e2]
  simp [bkV_same, mvS, List.length_append, Nat.add_assoc, Int.add_assoc]
theorem used_mv {lA a b : List Nat} {nA n m : Nat} {room : Nat} {s1 s2 : Ss} (hA : nA = lA.length) (hn : n = a.length) (ho : s1.over = false) (hs : SsOk (lA ++ a) s1) (hst : oneS room (lA ++ a) s1 = .error 10) (hr : runS room ((lA ++ a) ++ b) s1 = .ok (mvS (s1.a / 8) s1.told s2)) :
    usedN nA (n + m) (mvS (s1.a / 8) s1.told s2) = n + usedN (leftB (lA ++ a) s1).length m s2 := by
  have e1 : (leftB (lA ++ a) s1).length = (lA ++ a).length - s1.a / 8 := by unfold leftB; rw [ho]; exact List.length_drop
  rw [e1]
  unfold usedN
  cases h2 : s2.over with
  | false =>
    have : (mvS (s1.a / 8) s1.told s2).over = false := h2
    rw [this]
    rfl
  | true =>
    have h3 : (mvS (s1.a / 8) s1.told s2).over = true := h2
    have h4 := run_tight hs ho hst hr h3
    rw [h3]
    simp only [if_true]
    have h5 : (mvS (s1.a / 8) s1.told s2).a = s2.a + 8 * (s1.a / 8) := rfl
    have h6 := hs.at_
    rw [h5] at h4 ⊢
    rw [List.length_append] at *
    omega
end Go.Proofs.Ytahboomghjdjhaa

/-
  Walks: SwellParts.
-/
namespace Go.Proofs.Ytahboomghjdjhaa
open Go.RowKit

/-- A stream and three values. -/
def ShapeV (v : Value) : Prop := ∃ (f : Nat → Value) (T : Option Addr) (tn tc : Nat) (u e : Int), v = .tuple #[.agg (cellsOf 45 f), .slice T tn tc, .int .i64 u, .int .i64 e] ∧ ∀ i, (f i).oneCell' = true
/-- How what the whole comes to goes with what the first part does. -/
def PartRel (s : Wv) (a b : List Nat) (o1 o : Except Nat Ss) : Prop := match o1 with
  | .error e => o = .error e
  | .ok s1 => (s1.over = true → o = .ok s1) ∧ (s1.over = false → o = mvE (s1.a / 8) s1.told (runS (s.most.toNat - (s.made.toNat + s1.told.length)) (leftB (s.lA ++ a) s1 ++ b) ⟨leftA s1, s1.k, false, s1.win, []⟩) ∧ runS (s.most.toNat - s.made.toNat) ((s.lA ++ a) ++ b) s1 = o)
theorem part_rel {s : Wv} {w : World} (hs : s.ok w) {a : List Nat} (b : List Nat) {o1 : Except Nat Ss} (h : FeedIs s a o1) : ∃ o, FeedIs s (a ++ b) o ∧ PartRel s a b o1 o := by
  cases o1 with
  | error e => exact ⟨_, parts_err hs h, rfl⟩
  | ok s1 =>
    cases ho : s1.over with
    | true => exact ⟨_, parts_over hs h ho, fun _ => rfl, fun h' => (by rw [ho] at h'; cases h')⟩
    | false => exact ⟨_, (parts_on hs h ho).1, fun h' => (by rw [ho] at h'; cases h'), fun _ => ⟨rfl, (parts_on hs h ho).2⟩⟩
theorem tuple4_inj {a b c d a' b' c' d' : Value} (h : Value.tuple #[a, b, c, d] = .tuple #[a', b', c', d']) : a = a' ∧ b = b' ∧ c = c' ∧ d = d' := by
  injection h with h
  simpa using h
theorem arr_of {w : World} {g : Nat} {t : TypeId} {n : Nat} {f f' : Nat → Value} (h : Arr w g t n f) (e : cellsOf n f' = cellsOf n f) : Arr w g t n f' := by
  show Blk w g t (cellsOf n f')
  rw [e]
  exact h
set_option maxRecDepth 100000 in
set_option maxHeartbeats 32000000 in
theorem law_sparts (s : Wv) (B1 : Option Addr) (l1 : List Nat) (c1 : Nat) (B2 : Option Addr) (l2 : List Nat) (c2 : Nat) (w : World) (hin : s.inn w) (hl1 : InBs w B1 l1) (hl2 : InBs w B2 l2) (hsum : l1.length + l2.length ≤ 9223372036854775807) :
    Calls Try.prog 5 #[.agg (cellsOf 45 s.F), .slice B1 l1.length c1, .slice B2 l2.length c2] w fun e w' => e = .returned (.bool true) ∧ Below w.heap.size w w' := by
  obtain ⟨hbs1, hB1, hm1⟩ := hl1
  obtain ⟨hbs2, hB2, hm2⟩ := hl2
  unfold maxLen at hm1 hm2
  have hrd1 : Rd w B1 (u8s l1) := Bs.rd hbs1 hB1
  have hrd2 : Rd w B2 (u8s l2) := Bs.rd hbs2 hB2
  have hy1 := hbs1.2
  have hy2 := hbs2.2
  obtain ⟨n, hn⟩ : ∃ n, l1.length = n := ⟨_, rfl⟩
  obtain ⟨m, hm⟩ : ∃ m, l2.length = m := ⟨_, rfl⟩
  rw [hn] at hm1 hsum ⊢
  rw [hm] at hm2 hsum ⊢
  have hb0 : Below w.heap.size w (w.alloc (.cells (cellsOf 45 s.F) 32)) := (Below.refl _ _).alloc (Nat.le_refl _) _
  have k0 : Arr (w.alloc (.cells (cellsOf 45 s.F) 32)) w.heap.size 32 45 s.F := Blk.new _ _ _
  have HG := Lib.hid fun wx => great_any s B1 n c1 wx
  have HI := Lib.hid (And.intro hin (And.intro hrd1 (And.intro hn (And.intro hy1 (And.intro hrd2 (And.intro hm hy2))))))
  generalize hF : s.F = F at *
  have HF := Lib.hid hF
  clear hin hrd1 hrd2 hbs1 hbs2 hy1 hy2 hB1 hB2 hn hm hF
  go_enter Try.func5, Try.ntmps5
  go_upto_region 1 with (fail)
  change Code.wp _ _ _ _ (w.alloc (.cells (cellsOf 45 F) 32))
  generalize w.alloc (.cells (cellsOf 45 F) 32) = w0 at *
  obtain ⟨gs, hgs⟩ : ∃ g, w.heap.size = g := ⟨_, rfl⟩
  rw [hgs] at k0
  rw [hgs]
  have HGS := Lib.hid hgs
  clear hgs
  go_upto_region 2 with (go_at_call 9; refine (sw_alive _).mono ?_; rintro e w1 ⟨rfl, h1⟩; have k1 := Arr.below k0 h1 (Blk.lt k0); have hb1 := hb0.trans (h1.mono hb0.size))
  go_wp2_with (refine load_arr rfl 32 (.tmp 3) rfl rfl k1 Try.underlying32 rfl sw_size ?_)
  refine (HG.out _).mono ?_
  rintro e w2 ⟨g, rfl, h2, hg⟩
  have k2 := Arr.below k1 h2 (Blk.lt k1)
  have hb2 := hb1.trans (h2.mono hb1.size)
  clear k1 k0 hb1 hb0 h1 h2
  cases g with
  | true =>
    go_wp2_with fail
    go_ret
    exact ⟨rfl, hb2⟩
  | false =>
    obtain ⟨g1, g2, g3, g4, g5, g6⟩ := hg rfl
    have ew : wrap64 ((n : Int) + (m : Int)) = (n : Int) + (m : Int) := IntWalk.wrap64_in _ (by omega)
    by_cases hnm : 300 < n + m
    · have e1 : decide ((300 : Int) < (n : Int) + (m : Int)) = true := decide_eq_true (by omega)
      have e1' : decide (300 < n + m) = true := decide_eq_true hnm
      clear hg
      go_wp2_with fail
      go_ret
      exact ⟨rfl, hb2⟩
    · have e1 : decide ((300 : Int) < (n : Int) + (m : Int)) = false := decide_eq_false (by omega)
      have e1' : decide (300 < n + m) = false := decide_eq_false hnm
      have hnm' : n + m ≤ 300 := by omega
      have hok : s.ok w := HI.out.1.ok (by omega) (by omega) (by omega) (by omega)
      obtain ⟨o1, F1⟩ := FeedIs.ex s l1
      obtain ⟨o, FO, HR⟩ := part_rel hok l2 F1
      have hok2 : s.ok w2.drew := hok.below (hb2.drew)
      have HC := Lib.hid fun wx A c (hb : Below w2.drew.heap.size w2.drew wx) (hr : Rd wx A (u8s (l1 ++ l2))) => (HF.out ▸ feed_to (c := c) (hok2.below hb) hr (show n + m = (l1 ++ l2).length by rw [List.length_append, HI.out.2.2.1, HI.out.2.2.2.2.2.1]) (by omega) (fun x hx => (List.mem_append.1 hx).elim (HI.out.2.2.2.1 x) (HI.out.2.2.2.2.2.2 x)) FO : Calls Try.prog 8 #[.agg (cellsOf 45 F), .slice A (n + m : Nat) c] wx fun r w' => FeedTo wx w' s (n + m) (l1 ++ l2) o r)
      have HO := Lib.hid (And.intro hok (And.intro F1 (And.intro FO HR)))
      have HGB := Lib.hid (And.intro g1 (And.intro g2 (And.intro g3 (And.intro g4 (And.intro g5 g6)))))
      clear hg g2 g3 g4 g5 g6 hok hok2 F1 FO HR hm1 hm2 hsum
      go_upto_region 4 with fail
      clear e1 e1' ew hnm
      refine wp_region_moves w2.drew (fun i => if i = 2 then some (fun u => ∃ A c, u = .slice A n c) else if i = 4 then some (fun u => ∃ A c, u = .slice A (n + m) c) else if i = 5 then some ShapeV else if i = 11 then some (fun v => ∃ g, v = .pointer (some ⟨g, 0, none⟩)) else if i = 12 then some (fun _ => True) else none)
        (chainF 147 [2, 4, 5, 6, 7, 12] [some 40, some 42, some 43, some 37, some 44, none] [] 11 8 (parD w2.drew s n m l1 l2 o)) (by kernel_rfl) (by kernel_rfl) (by kernel_rfl) (by kernel_rfl) (chainF_new rfl parD_start) ?_
      have hread : ∀ k f vs va w, parD w2.drew s n m l1 l2 o k f vs va w → Arr w gs 32 45 F := fun k f vs va w h => Arr.below (Arr.drew k2) (parD_bel h) (Blk.lt (Arr.drew k2))
      refine moveF_read (v := .agg (cellsOf 45 F)) (by decide) (by decide) (by decide) rfl ⟨0, false, fun _ => undef, undef, parD_start⟩ (fun k f vs va w h => ?_) (fun K hK => ?_)
      · exact run_row 32 (.tmp 3) rfl rfl (hread _ _ _ _ _ h) Try.underlying32 rfl sw_size
      go_simp
      refine hK _ ?_
      clear hK K
      refine moveF_read (v := .slice B1 n c1) (by decide) (by decide) (by decide) rfl ⟨0, false, fun _ => undef, undef, parD_start⟩ (fun k f vs va w h => ?_) (fun K hK => ?_)
      · go_simp
      go_simp
      refine hK _ ?_
      clear hK K
      refine moveF_at 0 (fun u => ∃ A c, u = .slice A n c) rfl (by decide) rfl (by decide) (by decide) rfl (by decide) (dd_of rfl) (by first | kernel_rfl | decide | simp [Region.binds]) (fun d hd => by first | (cases hd; done) | (cases hd; decide)) rfl ⟨_, none, 0, rfl⟩ (fun f vs va w h hf hvs hva => ?_) (fun v hv K hK => ?_)
      · exact lands_grow selem_u8 (.const (.slice none 0 0)) (.tmp 39) rfl rfl (World.ownsRow_nil _ _ _ _) (parD_bel h).size rfl ((HI.out.2.1.below hb2).drew.below (parD_bel h)) (by rw [u8s_length, HI.out.2.2.1, Nat.mul_one]) (u8s_one _) n (Nat.zero_add _) (u8s l1) (List.nil_append _) (by omega) (by omega) (fun A c w' own hg => ⟨⟨A, c, rfl⟩, parD_1 h rfl own hg⟩)
      obtain ⟨A', c', rfl⟩ := hv
      go_simp
      refine hK _ ?_
      clear hK K
      refine moveF_read (v := .slice B2 m c2) (by decide) (by decide) (by decide) rfl ⟨0, false, fun _ => undef, undef, parD_start⟩ (fun k f vs va w h => ?_) (fun K hK => ?_)
      · go_simp
      go_simp
      refine hK _ ?_
      clear hK K
      refine moveF_at 1 (fun u => ∃ A c, u = .slice A (n + m) c) rfl (by decide) rfl (by decide) (by decide) rfl (by decide) (dd_of rfl) (by first | kernel_rfl | decide | simp [Region.binds]) (fun d hd => by first | (cases hd; done) | (cases hd; decide)) rfl ⟨_, none, 0, rfl⟩ (fun f vs va w h hf hvs hva => ?_) (fun v hv K hK => ?_)
      · obtain ⟨A0, c0, hv0, ho0⟩ := h.2.1 rfl
        have h40 : vs 0 = .slice A' n c' := hvs 0 40 rfl (by simp [Op.operands, Call.operands])
        have e1 : Value.slice A' n c' = .slice A0 n c0 := h40.symm.trans hv0
        injection e1 with e1 _ e2
        subst e1 e2
        exact lands_grow selem_u8 (.tmp 40) (.tmp 41) rfl rfl ho0 (parD_bel h).size rfl ((HI.out.2.2.2.2.1.below hb2).drew.below (parD_bel h)) (by rw [u8s_length, HI.out.2.2.2.2.2.1, Nat.mul_one]) (u8s_one _) (n + m) rfl (u8s (l1 ++ l2)) (u8s_append l1 l2).symm (by omega) (by omega) (fun A c w' own hg => ⟨⟨A, c, rfl⟩, parD_2 h ho0 rfl own hg⟩)
      obtain ⟨A2', c2', rfl⟩ := hv
      go_simp
      refine hK _ ?_
      clear hK K
      refine moveF_at 2 ShapeV rfl (by decide) rfl (by decide) (by decide) rfl (by decide) (dd_of rfl) (by first | kernel_rfl | decide | simp [Region.binds]) (fun d hd => by first | (cases hd; done) | (cases hd; decide)) rfl ⟨_, (⟨swZ, none, 0, 0, 0, 0, rfl, fun i => swH_one _ _ _ _ _ _ _ _ _ _ _ _ _ i⟩ : ShapeV _)⟩ (fun f vs va w h hf hvs hva => ?_) (fun v hv K hK => ?_)
      · obtain ⟨A0, c0, hv0, ho0⟩ := h.2.2.1 rfl
        have h42 : vs 1 = .slice A2' (n + m) c2' := hvs 1 42 rfl (by simp [Op.operands, Call.operands])
        have e1 : Value.slice A2' (n + m) c2' = .slice A0 (n + m) c0 := h42.symm.trans hv0
        injection e1 with e1 _ e2
        subst e1 e2
        clear hvs hva
        go_simp
        refine (HC.out _ _ _ (parD_bel h) (own_rd ho0)).mono ?_
        rintro e w' hft
        obtain ⟨v, rfl, hat, hb⟩ := hft.at_ (parD_bel h)
        exact ⟨v, rfl, hat.shape, parD_3 h hat hb⟩
      obtain ⟨XF, T, tn, tc, u, e, rfl, hone⟩ := hv
      go_simp
      refine hK _ ?_
      clear hK K
      refine moveF_pure 3 (v := .tuple #[.agg (cellsOf 45 XF), .slice T tn tc, .int .i64 u, .int .i64 e]) rfl (by decide) rfl (by decide) (by decide) rfl (by decide) (dd_of rfl) (by first | kernel_rfl | decide | simp [Region.binds]) (fun d hd => by first | (cases hd; done) | (cases hd; decide)) rfl ⟨0, false, fun _ => undef, undef, parD_start⟩ (fun k f vs va w h => ?_) (fun f vs va w h => parD_on h (by omega) (by omega) rfl) (fun K hK => ?_)
      · go_simp
      go_simp
      refine hK _ ?_
      clear hK K
      refine moveF_pure 4 (v := .agg (cellsOf 45 XF)) rfl (by decide) rfl (by decide) (by decide) rfl (by decide) (dd_of rfl) (by first | kernel_rfl | decide | simp [Region.binds]) (fun d hd => by first | (cases hd; done) | (cases hd; decide)) rfl ⟨0, false, fun _ => undef, undef, parD_start⟩ (fun k f vs va w h => ?_) (fun f vs va w h => parD_on h (by omega) (by omega) rfl) (fun K hK => ?_)
      · go_simp
      go_simp
      refine hK _ ?_
      clear hK K
      refine moveF_read (v := .slice T tn tc) (by decide) (by decide) (by decide) rfl ⟨0, false, fun _ => undef, undef, parD_start⟩ (fun k f vs va w h => ?_) (fun K hK => ?_)
      · go_simp
      go_simp
      refine hK _ ?_
      clear hK K
      refine moveF_read (v := .int .i64 u) (by decide) (by decide) (by decide) rfl ⟨0, false, fun _ => undef, undef, parD_start⟩ (fun k f vs va w h => ?_) (fun K hK => ?_)
      · go_simp
      go_simp
      refine hK _ ?_
      clear hK K
      refine moveF_read (v := .int .i64 e) (by decide) (by decide) (by decide) rfl ⟨0, false, fun _ => undef, undef, parD_start⟩ (fun k f vs va w h => ?_) (fun K hK => ?_)
      · go_simp
      go_simp
      refine hK _ ?_
      clear hK K
      refine moveF_free (fun v => ∃ g, v = .pointer (some ⟨g, 0, none⟩)) rfl (by decide) rfl (by decide) (by decide) (by decide) rfl ⟨_, 0, rfl⟩ (fun k vs va w h => ?_) (fun v hv K hK => ?_)
      · go_simp
        exact ⟨⟨_, rfl⟩, parD_free h⟩
      obtain ⟨g8, rfl⟩ := hv
      go_simp
      refine hK _ ?_
      clear hK K
      refine moveF_at 5 (fun _ => True) rfl (by decide) rfl (by decide) (by decide) rfl (by decide) (dd_of rfl) (by first | kernel_rfl | decide | simp [Region.binds]) (fun d hd => by first | (cases hd; done) | (cases hd; decide)) rfl ⟨undef, trivial⟩ (fun f vs va w h hf hvs hva => ?_) (fun v hv K hK => ?_)
      · have hft : f = true := hf (by first | rfl | kernel_rfl | decide)
        obtain ⟨g', cf, hva', hge, kk, hsw, _⟩ := h.2.2.2.2.1 hft
        have h8 : va = .pointer (some ⟨g8, 0, none⟩) := hva (by simp [Op.operands, Call.operands])
        have h44 : vs 4 = .agg (cellsOf 45 XF) := hvs 4 44 rfl (by simp [Op.operands, Call.operands])
        have eg : g' = g8 := by
          have e1 : Value.pointer (some ⟨g', 0, none⟩) = Value.pointer (some ⟨g8, 0, none⟩) := hva'.symm.trans h8
          injection e1 with e1
          injection e1 with e1
          injection e1 with e1
        subst eg
        exact lands_overw 32 (.tmp 8) (.tmp 44) rfl rfl rfl kk sw_size (fun i _ => hone i) (fun w' k' hg => ⟨trivial, parD_6 h hft hva' hge kk k' hg rfl h44⟩)
      clear hv
      go_simp
      refine hK _ ?_
      clear hK K
      refine moveF_read (v := .slice T tn tc) (by decide) (by decide) (by decide) rfl ⟨0, false, fun _ => undef, undef, parD_start⟩ (fun k f vs va w h => ?_) (fun K hK => ?_)
      · go_simp
      go_simp
      refine hK _ ?_
      clear hK K
      refine moveF_read (v := .int .i64 u) (by decide) (by decide) (by decide) rfl ⟨0, false, fun _ => undef, undef, parD_start⟩ (fun k f vs va w h => ?_) (fun K hK => ?_)
      · go_simp
      go_simp
      refine hK _ ?_
      clear hK K
      refine moveF_read (v := .int .i64 e) (by decide) (by decide) (by decide) rfl ⟨0, false, fun _ => undef, undef, parD_start⟩ (fun k f vs va w h => ?_) (fun K hK => ?_)
      · go_simp
      go_simp
      refine hK _ ?_
      clear hK K
      clear hread
      show ∀ L w', _ → _ → _
      intro L w4 hL hC
      have hE := chainF_end hC hL (by decide) (by decide)
      clear hL hC
      obtain ⟨hb24d, _, _, hfa, hcell, _⟩ := hE
      replace hfa : FeedAt w2.drew w4 s (n + m) (l1 ++ l2) o (.tuple #[.agg (cellsOf 45 XF), .slice T tn tc, .int .i64 u, .int .i64 e]) := hfa (by decide)
      obtain ⟨g8', cf, e8, hge8, k4', _, hcf⟩ := hcell rfl
      have ecf : cellsOf 45 XF = cellsOf 45 cf := by
        have h : Value.agg (cellsOf 45 XF) = .agg (cellsOf 45 cf) := hcf (by decide)
        injection h
      have eg8 : g8 = g8' := by
        have h : Value.pointer (some ⟨g8, 0, none⟩) = .pointer (some ⟨g8', 0, none⟩) := e8
        injection h with h
        injection h with h
        injection h with h
      subst eg8
      have k4 : Arr w4 g8 32 45 XF := arr_of k4' ecf
      have hb24 : Below w2.heap.size w2 w4 := Below.undrew hb24d
      have hb4 := hb2.trans (hb24.mono hb2.size)
      have ks := Arr.below k2 hb24 (Blk.lt k2)
      have HC1 := Lib.hid (HF.out ▸ feed_to (c := c1) (HO.out.1.below hb4) (HI.out.2.1.below hb4) HI.out.2.2.1.symm (by omega) HI.out.2.2.2.1 HO.out.2.1 : Calls Try.prog 8 #[.agg (cellsOf 45 F), .slice B1 n c1] w4 fun r w' => FeedTo w4 w' s n l1 o1 r)
      have HB4 := Lib.hid (And.intro hb24d hb4)
      clear hcell e8 hcf k4' ecf hb24d hb24 k2 HC hone
      cases o1 with
      | error E =>
        have ho : o = .error E := HO.out.2.2.2
        subst ho
        obtain ⟨_, h2, h3, h4⟩ := tuple4_inj (show Value.tuple #[.agg (cellsOf 45 XF), .slice T tn tc, .int .i64 u, .int .i64 e] = .tuple #[.agg (cellsOf 45 swZ), .slice none 0 0, .int .i64 0, .int .i64 (E : Int)] from hfa)
        injection h2 with h2 h2' h2''
        injection h4 with _ h4
        subst h2 h2' h2'' h4
        have hE := FeedIs.err HO.out.1 HO.out.2.1
        have he : (((E : Nat) : Int) != 0) = true := by rw [bne_iff_ne]; omega
        clear hfa h3
        go_upto_region 6 with (first
          | (refine load_arr rfl 32 (.tmp 3) rfl rfl ks Try.underlying32 rfl sw_size ?_)
          | (go_at_call 8; refine HC1.out.mono ?_; rintro e w5 ⟨h5, rfl⟩)
          | (refine store_over rfl 32 (.tmp 12) (.tmp 52) (f := swZ) (f0 := swZ) rfl rfl rfl (Blk.new _ _ _) sw_size (fun i _ => swH_one _ _ _ _ _ _ _ _ _ _ _ _ _ i) ?_; intro w6 k6 g6))
        have hb6 := box_sw (hb4.trans (h5.mono hb4.size)) g6
        clear h5 g6 k6 hE ks k4
        go_wp2_with fail
        go_ret
        exact ⟨rfl, hb6⟩
      | ok s1 =>
        go_upto_region 6 with (first
          | (refine load_arr rfl 32 (.tmp 3) rfl rfl ks Try.underlying32 rfl sw_size ?_)
          | (go_at_call 8; refine HC1.out.mono ?_; rintro e w5 ⟨Y, T1, tn1, tc1, u1, rfl, M1⟩; have hone1 := wv_one Y; generalize hYF : Y.F = YF at *)
          | (refine store_over rfl 32 (.tmp 12) (.tmp 52) (f := YF) (f0 := swZ) rfl rfl rfl (Blk.new _ _ _) sw_size (fun i _ => hone1 i) ?_; intro w6 k6 g6))
        have hb46 : Below w4.heap.size w4 w6 := box_sw M1.only g6
        have hb56 : Below w5.heap.size w5 w6 := box_sw (Below.refl _ _) g6
        have hb6 := hb4.trans (hb46.mono hb4.size)
        have M6 := M1.below hb56
        have kx := Arr.below k4 hb46 (Blk.lt k4)
        have hP1 := (HO.out.2.1.p HO.out.1).1
        have HYF := Lib.hid hYF
        have hovc : w6.cell? ⟨w5.heap.size, 44, none⟩ = some (.bool s1.over) := (Arr.cell k6 44 (by omega)).trans (congrArg some (by rw [← hYF]; show Value.bool Y.over = _; rw [M6.over_]))
        clear hYF M1 g6 k4 ks hb56
        cases hov : s1.over with
        | true =>
          rw [hov] at hovc
          have ho : o = .ok s1 := HO.out.2.2.2.1 hov
          subst ho
          obtain ⟨X, T7, tn7, tc7, u', hv, MX⟩ := hfa
          obtain ⟨q1, q2, q3, q4⟩ := tuple4_inj hv
          injection q1 with q1
          injection q2 with q2 q2' q2''
          injection q3 with _ q3
          injection q4 with _ q4
          subst q2 q2' q2'' q3 q4
          have kx' : Arr w6 g8 32 45 X.F := arr_of kx q1.symm
          have MX6 := MX.below hb46
          have HS := Lib.hid (sw_same X Y w6 MX6.val M6.val)
          have hsame : sameW X Y = true := by
            obtain ⟨v, I, ci, hx, _⟩ := MX6.is
            obtain ⟨v', I', ci', hy, _⟩ := M6.is
            rw [hx, hy]
            exact fedV_over_same hov
          rw [hsame, HYF.out] at HS
          generalize X.F = XG at *
          have eu : tn = tn1 := MX6.tn_.trans M6.tn_.symm
          have eu2 : u' = u1 := by rw [MX6.used_, M6.used_]; unfold usedN; rw [hov]; rfl
          have HT := Lib.hid (And.intro MX6.rd (And.intro M6.rd (And.intro hP1.byte (And.intro MX6.tn_ M6.tn_))))
          subst eu2
          clear hv q1 kx MX MX6 M6 hsame hov hP1 hb46 eu
          go_upto_region 9 with fail
          have hcx := fun wx (h : Below w6.heap.size w6 wx) => conv_row wx (HT.out.1.below h) HT.out.2.2.1 HT.out.2.2.2.1 tc
          have hcy := fun wx (h : Below w6.heap.size w6 wx) => conv_row wx (HT.out.2.1.below h) HT.out.2.2.1 HT.out.2.2.2.2 tc1
          have HCV := Lib.hid (And.intro hcx hcy)
          clear hcx hcy
          go_wp2_with (first
            | (refine load_arrG (by rfl) 32 (.tmp 12) rfl rfl k6 Try.underlying32 rfl sw_size ?_)
            | (refine load_arrG (by rfl) 32 (.tmp 8) rfl rfl kx' Try.underlying32 rfl sw_size ?_)
            | (go_at_call 12; refine HS.out.mono ?_; rintro e w7 ⟨rfl, h7⟩; have cvx := HCV.out.1 w7 h7; have cvy := HCV.out.2 w7 h7))
          go_ret
          exact ⟨rfl, hb6.trans (h7.mono hb6.size)⟩
        | false =>
          rw [hov] at hovc
          obtain ⟨ho, hfin⟩ := HO.out.2.2.2.2 hov
          obtain ⟨o2, ho2⟩ : ∃ o2, runS (s.most.toNat - (s.made.toNat + s1.told.length)) (leftB (s.lA ++ l1) s1 ++ l2) ⟨leftA s1, s1.k, false, s1.win, []⟩ = o2 := ⟨_, rfl⟩
          have F2 : FeedIs Y l2 o2 := ho2 ▸ M6.next hP1 hov l2
          rw [ho2] at ho
          have HC2 := Lib.hid (feed_to (c := c2) M6.val (HI.out.2.2.2.2.1.below hb6) HI.out.2.2.2.2.2.1.symm (by omega) HI.out.2.2.2.2.2.2 F2)
          rw [HYF.out] at HC2
          have eu1 : u1 = n := by rw [M6.used_]; unfold usedN; rw [hov]; rfl
          subst eu1
          cases o2 with
          | error E2 =>
            have ho' : o = .error E2 := ho
            subst ho'
            obtain ⟨_, h2, h3, h4⟩ := tuple4_inj (show Value.tuple #[.agg (cellsOf 45 XF), .slice T tn tc, .int .i64 u, .int .i64 e] = .tuple #[.agg (cellsOf 45 swZ), .slice none 0 0, .int .i64 0, .int .i64 (E2 : Int)] from hfa)
            injection h4 with _ h4
            subst h4
            have hE := FeedIs.err M6.val F2
            have he : (((E2 : Nat) : Int) != 0) = true := by rw [bne_iff_ne]; omega
            clear hfa h2 h3 ho ho2 F2 M6 hP1 hov hfin
            go_upto_region 11 with (first
              | (refine load_arr rfl 32 (.tmp 12) rfl rfl k6 Try.underlying32 rfl sw_size ?_)
              | (go_at_call 8; refine HC2.out.mono ?_; rintro e w7 ⟨h7, rfl⟩)
              | (refine store_over rfl 32 (.tmp 16) (.tmp 102) (f := swZ) (f0 := swZ) rfl rfl rfl (Blk.new _ _ _) sw_size (fun i _ => swH_one _ _ _ _ _ _ _ _ _ _ _ _ _ i) ?_; intro w8 k8 g8w))
            have hb8 := box_sw (hb6.trans (h7.mono hb6.size)) g8w
            clear h7 g8w k8 kx k6 hb46
            go_wp2_with fail
            go_ret
            exact ⟨rfl, hb8⟩
          | ok s2 =>
            have ho' : o = .ok (mvS (s1.a / 8) s1.told s2) := ho
            subst ho'
            obtain ⟨X, T7, tn7, tc7, u', hv, MX⟩ := hfa
            obtain ⟨q1, q2, q3, q4⟩ := tuple4_inj hv
            injection q1 with q1
            injection q2 with q2 q2' q2''
            injection q3 with _ q3
            injection q4 with _ q4
            subst q2 q2' q2'' q3 q4
            have kx' : Arr w6 g8 32 45 X.F := arr_of kx q1.symm
            have hPX := (HO.out.2.2.1.p HO.out.1).1
            have hPZ := (F2.p M6.val).1
            clear hv q1 kx ho ho2
            go_upto_region 11 with (first
              | (refine load_arr rfl 32 (.tmp 12) rfl rfl k6 Try.underlying32 rfl sw_size ?_)
              | (go_at_call 8; refine HC2.out.mono ?_; rintro e w7 ⟨Z, T2, tn2, tc2, u2, rfl, M2⟩; have hone2 := wv_one Z; generalize hZF : Z.F = ZF at *)
              | (refine store_over rfl 32 (.tmp 16) (.tmp 102) (f := ZF) (f0 := swZ) rfl rfl rfl (Blk.new _ _ _) sw_size (fun i _ => hone2 i) ?_; intro w8 k8 g8w))
            have hb78 : Below w7.heap.size w7 w8 := box_sw (Below.refl _ _) g8w
            have hb68 : Below w6.heap.size w6 w8 := box_sw M2.only g8w
            have hb8 := hb6.trans (hb68.mono hb6.size)
            have MZ := M2.below hb78
            have MY := M6.below hb68
            have MX8 := (MX.below hb46).below hb68
            have kx8 := Arr.below kx' hb68 (Blk.lt kx')
            have HS := Lib.hid (sw_same X Z w8 MX8.val MZ.val)
            have hsame : sameW X Z = true := by
              obtain ⟨v, I, ci, hx, _⟩ := MX8.is
              obtain ⟨v', I', ci', hz, _⟩ := MZ.is
              obtain ⟨vy, Iy, cy, hyy, _⟩ := MY.is
              rw [hx, hz, hyy]
              exact fedV_mv hov hP1.ok.at_
            have hckx : ckS X = true := MX8.ck hPX
            have HK := Lib.hid fun wx (h : Below w8.heap.size w8 wx) => (hckx ▸ scheck_any X wx (MX8.val.below h) : Calls Try.prog 10 #[.agg (cellsOf 45 X.F)] wx fun r w' => CkdRes wx w' true r)
            rw [hsame, hZF] at HS
            have htold : (mvS (s1.a / 8) s1.told s2).told = s1.told ++ s2.told := rfl
            have eused : u' = u1 + u2 := by
              rw [MX8.used_, MZ.used_, MY.lA_.2]
              exact used_mv HO.out.1.lenA HI.out.2.2.1.symm hov hP1.ok (hP1.stop.resolve_left (by rw [hov]; simp)) hfin
            have htn : tn = (s1.told ++ s2.told).length := MX8.tn_.trans (by rw [htold])
            have hbx : ∀ x ∈ s1.told ++ s2.told, x < 256 := fun x hx => (List.mem_append.1 hx).elim (hP1.byte x) (hPZ.byte x)
            have HT := Lib.hid (And.intro (htold ▸ MX8.rd : Rd w8 T (u8s (s1.told ++ s2.told))) (And.intro MY.rd (And.intro MZ.rd (And.intro hbx (And.intro hP1.byte (And.intro hPZ.byte (And.intro htn (And.intro MY.tn_ MZ.tn_))))))))
            have hsum : str s1.told ++ str s2.told = str (s1.told ++ s2.told) := str_append _ _
            have hnb : ¬ (9223372036854775807 < (str s1.told).size + (str s2.told).size) := by
              rw [str_size, str_size]
              have h1 := hP1.room
              have h2 := hPX.room
              rw [htold, List.length_append] at h2
              have h3 := hPX.most_
              omega
            have ewu : wrap64 ((u1 : Int) + (u2 : Int)) = ((u1 + u2 : Nat) : Int) := by
              have h1 : u2 ≤ 300 := by
                have := usedN_le hPZ.ok.at_ M6.val.lenA HI.out.2.2.2.2.2.1
                rw [← MZ.used_] at this
                omega
              rw [IntWalk.wrap64_in _ (by omega)]
              omega
            subst eused
            generalize hXG : X.F = XG at *
            clear hsame hckx htold htn hbx MX MX8 MY MZ M2 M6 hPX hPZ hP1 hfin F2 kx' hb46 hb68 hb78 g8w hov hZF hone2
            have HCV := Lib.hid (And.intro (fun wx (h : Below w8.heap.size w8 wx) => conv_row wx (HT.out.1.below h) HT.out.2.2.2.1 HT.out.2.2.2.2.2.2.1 tc) (And.intro (fun wx (h : Below w8.heap.size w8 wx) => conv_row wx (HT.out.2.1.below h) HT.out.2.2.2.2.1 HT.out.2.2.2.2.2.2.2.1 tc1) (fun wx (h : Below w8.heap.size w8 wx) => conv_row wx (HT.out.2.2.1.below h) HT.out.2.2.2.2.2.1 HT.out.2.2.2.2.2.2.2.2 tc2)))
            go_wp2_with (first
              | (refine load_arrG (by rfl) 32 (.tmp 16) rfl rfl k8 Try.underlying32 rfl sw_size ?_)
              | (refine load_arrG (by rfl) 32 (.tmp 8) rfl rfl kx9 Try.underlying32 rfl sw_size ?_)
              | (refine load_arrG (by rfl) 32 (.tmp 8) rfl rfl kx8 Try.underlying32 rfl sw_size ?_)
              | (go_at_call 10; refine (HK.out w9 h9).mono ?_; rintro e wA ⟨rfl, hA⟩)
              | (go_at_call 12; refine HS.out.mono ?_; rintro e w9 ⟨rfl, h9⟩; have cvx := HCV.out.1 w9 h9; have cvy := HCV.out.2.1 w9 h9; have cvz := HCV.out.2.2 w9 h9; have kx9 := Arr.below kx8 h9 (Blk.lt kx8)))
            go_ret
            exact ⟨rfl, (hb8.trans (h9.mono hb8.size)).trans (hA.mono (hb8.trans (h9.mono hb8.size)).size)⟩
end Go.Proofs.Ytahboomghjdjhaa
