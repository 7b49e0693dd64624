/-
  swell's own, for the laws: Feed in one, New, Great.
-/
import Derived.Test.YtahboomghjdjhaaG41
import Derived.Test.YtahboomghjdjhaaGOpen
import Derived.Test.YtahboomghjdjhaaGSlideLaws
import Derived.Test.YtahboomghjdjhaaGSwFb
import Derived.Test.YtahboomghjdjhaaGSwZ
namespace Go.Proofs.Ytahboomghjdjhaa
open Go.RowKit

/-- What Feed comes to: an error, or where the run ends. -/
def FeedIs (s : Wv) (b : List Nat) (o : Except Nat Ss) : Prop :=
  (ckS s = false ∧ o = .error 8) ∨ (ckS s = true ∧ s.over = true ∧ o = .error 6) ∨ (ckS s = true ∧ s.over = false ∧ ∃ k, CkIs s k ∧ o = runS (s.most.toNat - s.made.toNat) (s.lA ++ b) ⟨s.at0.toNat, k, false, s.lw, []⟩)
theorem FeedIs.ex (s : Wv) (b : List Nat) : ∃ o, FeedIs s b o := by
  cases hck : ckS s with
  | false => exact ⟨_, .inl ⟨hck, rfl⟩⟩
  | true =>
    cases hov : s.over with
    | true => exact ⟨_, .inr (.inl ⟨hck, hov, rfl⟩)⟩
    | false =>
      obtain ⟨k, hk⟩ := ck_stream hck
      exact ⟨_, .inr (.inr ⟨hck, hov, k, hk, rfl⟩)⟩
def FeedPost (w w' : World) (s : Wv) (n : Nat) (b : List Nat) (o : Except Nat Ss) (r : Ending) : Prop := match o with
  | .error e => FeedNo w w' e r
  | .ok s1 => FedOk w w' s.most.toNat s.made.toNat s.nA n (s.lA ++ b) s1 r
theorem feed_is {s : Wv} {w : World} (hs : s.ok w) {B : Option Addr} {n c : Nat} {b : List Nat} (hB : Rd w B (u8s b)) (hn : n = b.length) (hm : n ≤ 90000) (hx : ∀ x ∈ b, x < 256) {o : Except Nat Ss} (h : FeedIs s b o) :
    Calls Try.prog 8 #[.agg (cellsOf 45 s.F), .slice B n c] w fun r w' => FeedPost w w' s n b o r := by
  rcases h with ⟨hck, rfl⟩ | ⟨hck, hov, rfl⟩ | ⟨hck, hov, k, hk, rfl⟩
  · exact feed_bad s w hs B n c hck
  · exact feed_over s w hs B n c hck hov
  · have h1 := hk.most
    have h2 := hk.made
    have h3 := hk.at0
    refine (feed_any s w hs B n c b hB hn hm hck hov k hk s.most.toNat s.made.toNat s.at0.toNat (by omega) (by omega) (by omega) hx).mono fun r w' h => ?_
    unfold FeedRes at h
    unfold FeedPost
    exact h
/-- What Feed answers where there is no error: a stream x, bytes, and how many were read. -/
structure FedX (w w' : World) (s : Wv) (n : Nat) (b : List Nat) (s1 : Ss) (x : Wv) (T : Option Addr) (tn tc used : Nat) : Prop where
  only : Below w.heap.size w w'
  val : x.ok w'
  told : w'.ownsRow w.heap.size 5 1 (.slice T tn tc) tn (u8s s1.told)
  tn_ : tn = s1.told.length
  used_ : used = usedN s.nA n s1
  is : ∃ v I ci, x = fedV s.most.toNat s.made.toNat (s.lA ++ b) s1 v I (leftB (s.lA ++ b) s1).length ci ∧ FedMem w w' s.most.toNat s.made.toNat (s.lA ++ b) s1 v I ci
def FeedTo (w w' : World) (s : Wv) (n : Nat) (b : List Nat) (o : Except Nat Ss) (r : Ending) : Prop := match o with
  | .error e => FeedNo w w' e r
  | .ok s1 => ∃ (x : Wv) (T : Option Addr) (tn tc used : Nat), r = .returned (.tuple #[.agg (cellsOf 45 x.F), .slice T tn tc, .int .i64 (used : Int), .int .i64 0]) ∧ FedX w w' s n b s1 x T tn tc used
theorem feed_to {s : Wv} {w : World} (hs : s.ok w) {B : Option Addr} {n c : Nat} {b : List Nat} (hB : Rd w B (u8s b)) (hn : n = b.length) (hm : n ≤ 90000) (hx : ∀ x ∈ b, x < 256) {o : Except Nat Ss} (h : FeedIs s b o) :
    Calls Try.prog 8 #[.agg (cellsOf 45 s.F), .slice B n c] w fun r w' => FeedTo w w' s n b o r :=
  (feed_is hs hB hn hm hx h).mono fun r w' h => by
    cases o with
    | error e => exact h
    | ok s1 =>
      obtain ⟨v, I, ci, hr, hM⟩ : FedOk w w' s.most.toNat s.made.toNat s.nA n (s.lA ++ b) s1 r := h
      exact ⟨_, _, _, _, _, hr, hM.only, hM.val, hM.told, hM.nt_, rfl, v, I, ci, rfl, hM⟩
section
variable {w w' : World} {s : Wv} {n : Nat} {b : List Nat} {s1 : Ss} {x : Wv} {T : Option Addr} {tn tc used : Nat}
theorem FedX.made (h : FedX w w' s n b s1 x T tn tc used) : x.most = (s.most.toNat : Int) ∧ x.made = ((s.made.toNat + s1.told.length : Nat) : Int) := by
  obtain ⟨v, I, ci, rfl, _⟩ := h.is
  exact ⟨rfl, rfl⟩
theorem FedX.lw_ (h : FedX w w' s n b s1 x T tn tc used) : x.lw = s1.win ∧ x.nw = s1.win.length := by
  obtain ⟨v, I, ci, rfl, hm⟩ := h.is
  exact ⟨rfl, hm.nl_⟩
theorem FedX.lA_ (h : FedX w w' s n b s1 x T tn tc used) : x.lA = leftB (s.lA ++ b) s1 ∧ x.nA = (leftB (s.lA ++ b) s1).length := by
  obtain ⟨v, I, ci, rfl, hm⟩ := h.is
  exact ⟨rfl, rfl⟩
theorem FedX.over_ (h : FedX w w' s n b s1 x T tn tc used) : x.over = s1.over := by
  obtain ⟨v, I, ci, rfl, hm⟩ := h.is
  rfl
theorem FedX.rd (h : FedX w w' s n b s1 x T tn tc used) : Rd w' T (u8s s1.told) := own_rd h.told
theorem FedX.ck {lw : List Nat} (h : FedX w w' s n b s1 x T tn tc used) (hp : FedP s.most.toNat s.made.toNat (s.lA ++ b) lw s1) : ckS x = true := by
  obtain ⟨v, I, ci, rfl, hm⟩ := h.is
  exact hp.ck rfl hm.nl_
end
/-- A stream that goes on is so that may be, in numbers. -/
theorem FeedIs.p {s : Wv} {w : World} (hs : s.ok w) {b : List Nat} {s1 : Ss} (h : FeedIs s b (.ok s1)) : FedP s.most.toNat s.made.toNat (s.lA ++ b) s.lw s1 ∧ ckS s = true ∧ s.over = false ∧ 0 ≤ s.most ∧ 0 ≤ s.made ∧ s.made ≤ s.most := by
  rcases h with ⟨_, h⟩ | ⟨_, _, h⟩ | ⟨hck, hov, k, hk, h⟩
  · cases h
  · cases h
  · have h1 := hk.most
    have h2 := hk.made
    have h3 := hk.at0
    exact ⟨feed_p hs hk (by omega) (by omega) (a := s.at0.toNat) (by omega) h.symm, hck, hov, h1.1, h2.1, h2.2⟩
theorem FeedIs.err {s : Wv} {w : World} (hs : s.ok w) {b : List Nat} {e : Nat} (h : FeedIs s b (.error e)) : e ≠ 0 := by
  rcases h with ⟨_, h⟩ | ⟨_, _, h⟩ | ⟨hck, hov, k, hk, h⟩
  · cases h; decide
  · cases h; decide
  · have h3 := hk.at0
    exact run_err0 _ (hk.start (a := s.at0.toNat) (by omega) hs.lenA b) e h.symm
theorem Wv.inn.ok {s : Wv} {w : World} (h : s.inn w) (h1 : s.nA ≤ 1000) (h2 : s.nw ≤ 100000) (h3 : s.bk.m1 ≤ 1000) (h4 : s.bk.m2 ≤ 1000) : s.ok w :=
  ⟨h.rA, h.bA, h.lenA, h.capA, by omega, ⟨h.r1, h.l1, h.c1, by omega, h.r2, h.l2, h.c2, by omega⟩, h.rw_, h.bw, h.lenw, h.capw, by omega⟩

/-- A new stream. -/
def newV (most : Int) : Wv := ⟨most, 0, none, 0, 0, [], 0, zeroV, false, 32768, none, 0, 0, [], false⟩
def noV : Wv := ⟨0, 0, none, 0, 0, [], 0, zeroV, false, 0, none, 0, 0, [], false⟩
theorem newV_F (most : Int) : (newV most).F = swN most := rfl
theorem noV_F : noV.F = swZ := rfl
theorem newV_ok (most : Int) (w : World) : (newV most).ok w :=
  ⟨Rd.nil_, fun _ h => (by cases h), rfl, Nat.le_refl _, by show 0 ≤ 1000000; omega, zeroV_ok w, Rd.nil_, fun _ h => (by cases h), rfl, Nat.le_refl _, by show 0 ≤ 1000000; omega⟩
theorem noV_ok (w : World) : noV.ok w :=
  ⟨Rd.nil_, fun _ h => (by cases h), rfl, Nat.le_refl _, by show 0 ≤ 1000000; omega, zeroV_ok w, Rd.nil_, fun _ h => (by cases h), rfl, Nat.le_refl _, by show 0 ≤ 1000000; omega⟩
theorem snew_yes (most : Int) (w : World) (h0 : 0 ≤ most) (h1 : most ≤ 131072) : Calls Try.prog 7 #[.int .i64 most] w fun r w' => r = .returned (.tuple #[.agg (cellsOf 45 (swN most)), .int .i64 0]) ∧ Below w.heap.size w w' :=
  (snew_any most w).mono fun r w' ⟨hb, hr⟩ => by
    rw [if_pos ⟨h0, h1⟩, if_pos ⟨h0, h1⟩] at hr
    exact ⟨hr, hb⟩
theorem snew_no (most : Int) (w : World) (h : ¬ (0 ≤ most ∧ most ≤ 131072)) : Calls Try.prog 7 #[.int .i64 most] w fun r w' => r = .returned (.tuple #[.agg (cellsOf 45 swZ), .int .i64 2]) ∧ Below w.heap.size w w' :=
  (snew_any most w).mono fun r w' ⟨hb, hr⟩ => by
    rw [if_neg h, if_neg h] at hr
    exact ⟨hr, hb⟩
theorem newV_is (most : Nat) (h1 : most ≤ 131072) : CkIs (newV (most : Int)) none := by
  refine ⟨rfl, zero_cells (v := zeroV) (by decide), fun k' hk' => (by cases hk'), fun _ => ⟨rfl, rfl⟩, ⟨?_, ?_⟩, ⟨?_, ?_⟩, ⟨?_, ?_⟩, ?_, .inr rfl, fun h => (by cases h), rfl, rfl⟩
  · show (0 : Int) ≤ (most : Int); omega
  · show (most : Int) ≤ 131072; omega
  · show (0 : Int) ≤ 0; omega
  · show (0 : Int) ≤ (most : Int); omega
  · show (0 : Int) ≤ 0; omega
  · show (0 : Int) ≤ 7; omega
  · show 0 ≤ 600; omega
theorem newV_ck (most : Nat) (h1 : most ≤ 131072) : ckS (newV (most : Int)) = true := by
  have hi := newV_is most h1
  unfold ckS ckN ckI ckW ckO
  simp only [Bool.and_eq_true, Bool.or_eq_true, decide_eq_true_eq, Bool.not_eq_true']
  exact ⟨⟨hi.most.1, hi.most.2, hi.made.1, hi.made.2, hi.at0.1, hi.at0.2⟩, ⟨hi.nA, hi.in_, .inl rfl⟩, ⟨hi.size, hi.nw⟩, .inr ⟨rfl, (by show sameV zeroV zeroV = true; decide)⟩⟩
/-- From the beginning. -/
theorem newV_feed (most : Nat) (h1 : most ≤ 131072) (b : List Nat) : FeedIs (newV (most : Int)) b (runS most b ⟨0, none, false, [], []⟩) :=
  .inr (.inr ⟨newV_ck most h1, rfl, none, newV_is most h1, by
    show _ = runS ((most : Int).toNat - (0 : Int).toNat) ([] ++ b) ⟨(0 : Int).toNat, none, false, [], []⟩
    simp⟩)
/-- .. and on. -/
theorem fedV_feed {most made : Nat} {all lw : List Nat} {s1 : Ss} (hp : FedP most made all lw s1) {v : Sv} {I : Option Addr} {ni ci : Nat} (hni : ni = (leftB all s1).length) (hnl : v.nl = s1.win.length) (ho : s1.over = false) (b : List Nat) :
    FeedIs (fedV most made all s1 v I ni ci) b (runS (most - (made + s1.told.length)) (leftB all s1 ++ b) ⟨leftA s1, s1.k, false, s1.win, []⟩) :=
  .inr (.inr ⟨hp.ck hni hnl, ho, s1.k, hp.is hni hnl, by
    show _ = runS ((most : Int).toNat - ((made + s1.told.length : Nat) : Int).toNat) (leftB all s1 ++ b) ⟨((leftA s1 : Nat) : Int).toNat, s1.k, false, s1.win, []⟩
    simp only [Int.toNat_natCast]⟩)
theorem fedV_over {most made : Nat} {all lw : List Nat} {s1 : Ss} (hp : FedP most made all lw s1) {v : Sv} {I : Option Addr} {ni ci : Nat} (hni : ni = (leftB all s1).length) (hnl : v.nl = s1.win.length) (ho : s1.over = true) (b : List Nat) :
    FeedIs (fedV most made all s1 v I ni ci) b (.error 6) := .inr (.inl ⟨hp.ck hni hnl, ho, rfl⟩)

/-- What Great answers: true, or that all is small. -/
def GreatRes (w w' : World) (n nA nw m1 m2 : Nat) (most : Int) (r : Ending) : Prop := ∃ g : Bool, r = .returned (.bool g) ∧ Below w.heap.size w w' ∧ (g = false → n ≤ 300 ∧ nA ≤ 700 ∧ nw ≤ 4000 ∧ m1 ≤ 400 ∧ m2 ≤ 400 ∧ most ≤ 4000)
/-- .. on, from what Feed answered. -/
theorem FedX.next {w w' : World} {s : Wv} {n : Nat} {b : List Nat} {s1 : Ss} {x : Wv} {T : Option Addr} {tn tc used : Nat} {lw : List Nat} (h : FedX w w' s n b s1 x T tn tc used) (hp : FedP s.most.toNat s.made.toNat (s.lA ++ b) lw s1) (ho : s1.over = false) (c : List Nat) :
    FeedIs x c (runS (s.most.toNat - (s.made.toNat + s1.told.length)) (leftB (s.lA ++ b) s1 ++ c) ⟨leftA s1, s1.k, false, s1.win, []⟩) := by
  obtain ⟨v, I, ci, rfl, hm⟩ := h.is
  exact fedV_feed hp rfl hm.nl_ ho c
theorem FedX.none {w w' : World} {s : Wv} {n : Nat} {b : List Nat} {s1 : Ss} {x : Wv} {T : Option Addr} {tn tc used : Nat} {lw : List Nat} (h : FedX w w' s n b s1 x T tn tc used) (hp : FedP s.most.toNat s.made.toNat (s.lA ++ b) lw s1) (ho : s1.over = true) (c : List Nat) : FeedIs x c (.error 6) := by
  obtain ⟨v, I, ci, rfl, hm⟩ := h.is
  exact fedV_over hp rfl hm.nl_ ho c

set_option maxRecDepth 100000 in
set_option maxHeartbeats 4000000 in
/-- Are they more than statements go through? -/
theorem great_any (s : Wv) (B : Option Addr) (n c : Nat) (w : World) :
    Calls Try.prog 11 #[.agg (cellsOf 45 s.F), .slice B n c] w fun r w' => GreatRes w w' n s.nA s.nw s.bk.m1 s.bk.m2 s.most r := by
  have hb0 : Below w.heap.size w (w.alloc (.cells (cellsOf 45 s.F) 32)) := (Below.refl _ _).alloc (Nat.le_refl _) _
  have k0 : Arr (w.alloc (.cells (cellsOf 45 s.F) 32)) w.heap.size 32 45 s.F := Blk.new _ _ _
  obtain ⟨ms, ma, A, nA, cA, lA, at0, bk, op, size, Bw, nw, cw, lw, over⟩ := s
  obtain ⟨kd, la, le, f1, C1, m1, d1, x1, f2, C2, m2, d2, x2⟩ := bk
  have q0 := Arr.cell k0 0 (by omega)
  have q2 := Arr.cell k0 2 (by omega)
  have q23 := Arr.cell k0 23 (by omega)
  have q40 := Arr.cell k0 40 (by omega)
  have q43 := Arr.cell k0 43 (by omega)
  dsimp only
  unfold Wv.F Bv.F at *
  dsimp only at *
  go_enter Try.func11, Try.ntmps11
  go_upto_region 1 with (fail)
  change Code.wp _ _ _ _ (w.alloc (.cells (cellsOf 45 (swH ms ma (.slice A nA cA) at0 (bkH (kd : Int) la le f1 (.slice C1 m1 d1) f2 (.slice C2 m2 d2)) op size (.slice Bw nw cw) over)) 32))
  generalize w.alloc (.cells (cellsOf 45 (swH ms ma (.slice A nA cA) at0 (bkH (kd : Int) la le f1 (.slice C1 m1 d1) f2 (.slice C2 m2 d2)) op size (.slice Bw nw cw) over)) 32) = w0 at *
  replace q0 : w0.cell? ⟨w.heap.size, 0, none⟩ = some (.int .i64 ms) := q0
  replace q2 : w0.cell? ⟨w.heap.size, 2, none⟩ = some (.slice A nA cA) := q2
  replace q23 : w0.cell? ⟨w.heap.size, 23, none⟩ = some (.slice C1 m1 d1) := q23
  replace q40 : w0.cell? ⟨w.heap.size, 40, none⟩ = some (.slice C2 m2 d2) := q40
  replace q43 : w0.cell? ⟨w.heap.size, 43, none⟩ = some (.slice Bw nw cw) := q43
  clear k0
  by_cases h1 : 300 < n
  · have e1 : decide ((300 : Int) < (n : Int)) = true := decide_eq_true (by omega)
    go_wp2_with fail
    go_ret
    exact ⟨true, rfl, hb0, fun h => (by cases h)⟩
  have e1 : decide ((300 : Int) < (n : Int)) = false := decide_eq_false (by omega)
  by_cases h2 : 700 < nA
  · have e2 : decide ((700 : Int) < (nA : Int)) = true := decide_eq_true (by omega)
    go_wp2_with fail
    go_ret
    exact ⟨true, rfl, hb0, fun h => (by cases h)⟩
  have e2 : decide ((700 : Int) < (nA : Int)) = false := decide_eq_false (by omega)
  by_cases h3 : 4000 < nw
  · have e3 : decide ((4000 : Int) < (nw : Int)) = true := decide_eq_true (by omega)
    go_wp2_with fail
    go_ret
    exact ⟨true, rfl, hb0, fun h => (by cases h)⟩
  have e3 : decide ((4000 : Int) < (nw : Int)) = false := decide_eq_false (by omega)
  by_cases h4 : 400 < m1
  · have e4 : decide ((400 : Int) < (m1 : Int)) = true := decide_eq_true (by omega)
    go_wp2_with fail
    go_ret
    exact ⟨true, rfl, hb0, fun h => (by cases h)⟩
  have e4 : decide ((400 : Int) < (m1 : Int)) = false := decide_eq_false (by omega)
  by_cases h5 : 400 < m2
  · have e5 : decide ((400 : Int) < (m2 : Int)) = true := decide_eq_true (by omega)
    go_wp2_with fail
    go_ret
    exact ⟨true, rfl, hb0, fun h => (by cases h)⟩
  have e5 : decide ((400 : Int) < (m2 : Int)) = false := decide_eq_false (by omega)
  by_cases h6 : 4000 < ms
  · have e6 : decide ((4000 : Int) < ms) = true := decide_eq_true (by omega)
    go_wp2_with fail
    go_ret
    exact ⟨true, rfl, hb0, fun h => (by cases h)⟩
  have e6 : decide ((4000 : Int) < ms) = false := decide_eq_false (by omega)
  have HE := Lib.hid (And.intro h1 (And.intro h2 (And.intro h3 (And.intro h4 (And.intro h5 h6)))))
  go_wp2_with fail
  go_ret
  exact ⟨false, rfl, hb0, fun _ => by obtain ⟨h1, h2, h3, h4, h5, h6⟩ := HE.out; exact ⟨by omega, by omega, by omega, by omega, by omega, by omega⟩⟩

/-! ### Reckoned runs -/
set_option maxRecDepth 100000 in
theorem alive_b : (match runS 9 [75, 4] ⟨0, none, false, [], []⟩ with
    | .error _ => false
    | .ok s1 => s1.over == false && s1.told == [97] && match runS 8 (leftB [75, 4] s1 ++ [0, 255]) ⟨leftA s1, s1.k, false, s1.win, []⟩ with
      | .error _ => false
      | .ok s2 => s2.over == true && s2.told == [] && s2.a == 10 && (leftB [75, 4] s1).length == 1) = true := by decide +kernel
theorem alive_run : ∃ s1 s2, runS 9 [75, 4] ⟨0, none, false, [], []⟩ = .ok s1 ∧ s1.over = false ∧ s1.told = [97] ∧ runS 8 (leftB [75, 4] s1 ++ [0, 255]) ⟨leftA s1, s1.k, false, s1.win, []⟩ = .ok s2 ∧ s2.over = true ∧ s2.told = [] ∧ s2.a = 10 ∧ (leftB [75, 4] s1).length = 1 := by
  have h := alive_b
  cases h1 : runS 9 [75, 4] ⟨0, none, false, [], []⟩ with
  | error e => rw [h1] at h; cases h
  | ok s1 =>
    rw [h1] at h
    simp only [Bool.and_eq_true, beq_iff_eq] at h
    obtain ⟨⟨a1, a2⟩, h⟩ := h
    cases h2 : runS 8 (leftB [75, 4] s1 ++ [0, 255]) ⟨leftA s1, s1.k, false, s1.win, []⟩ with
    | error e => rw [h2] at h; cases h
    | ok s2 =>
      rw [h2] at h
      simp only [Bool.and_eq_true, beq_iff_eq] at h
      obtain ⟨⟨⟨b1, b2⟩, b3⟩, b4⟩ := h
      exact ⟨s1, s2, rfl, a1, a2, h2, b1, b2, b3, b4⟩
set_option maxRecDepth 100000 in
theorem names_b : (match runS 9 [75, 4, 0] ⟨0, none, false, [], []⟩ with
    | .error _ => false
    | .ok s1 => s1.over == true && s1.told == [97] && s1.a == 18) = true := by decide +kernel
theorem names_run : ∃ s1, runS 9 [75, 4, 0] ⟨0, none, false, [], []⟩ = .ok s1 ∧ s1.over = true ∧ s1.told = [97] ∧ s1.a = 18 := by
  have h := names_b
  cases h1 : runS 9 [75, 4, 0] ⟨0, none, false, [], []⟩ with
  | error e => rw [h1] at h; cases h
  | ok s1 =>
    rw [h1] at h
    simp only [Bool.and_eq_true, beq_iff_eq] at h
    exact ⟨s1, rfl, h.1.1, h.1.2, h.2⟩
set_option maxRecDepth 100000 in
theorem names_limit : (match runS 0 [75, 4, 0] ⟨0, none, false, [], []⟩ with
    | .error e => e
    | .ok _ => 0) = 140 := by decide +kernel
set_option maxRecDepth 100000 in
theorem names_kind : (match runS 9 [7] ⟨0, none, false, [], []⟩ with
    | .error e => e
    | .ok _ => 0) = 130 := by decide +kernel
theorem err_of {o : Except Nat Ss} {n : Nat} (h : (match o with | .error e => e | .ok _ => 0) = n) (hn : n ≠ 0) : o = .error n := by
  cases o with
  | error e => rw [show e = n from h]
  | ok s => exact absurd h.symm hn
end Go.Proofs.Ytahboomghjdjhaa

/-
  Walks: alive of swell's laws.
-/
namespace Go.Proofs.Ytahboomghjdjhaa
open Go.RowKit

theorem box_sw {w w1 w2 : World} {o : Obj} (hb1 : Below w.heap.size w w1) (g2 : (w1.alloc o).grownBy w2 (some w1.heap.size)) : Below w.heap.size w w2 :=
  Below.then_only (hb1.alloc hb1.size _) g2 (by simp; have := hb1.size; omega) hb1.size
theorem conv_row (w : World) {A : Option Addr} {n : Nat} {l : List Nat} (h : Rd w A (u8s l)) (hb : ∀ x ∈ l, x < 256) (hn : n = l.length) (c : Nat) : (convert 22 9 (.slice A n c)).run Try.prog w = .ok (.string (str l)) w := by
  subst hn
  exact conv_bytes (P := Try.prog) w 22 5 Try.underlying22 Try.underlying5 9 Try.underlying9 A l c (rd_u8 h hb) (fun e => by have := h.2 e; simpa [u8s] using this)
theorem usedN_le {s1 : Ss} {lA b : List Nat} {nA n : Nat} (ha : s1.a ≤ 8 * (lA ++ b).length) (hA : nA = lA.length) (hb : b.length = n) : usedN nA n s1 ≤ n := by
  unfold usedN
  rw [List.length_append] at ha
  split <;> omega
theorem wv_one (s : Wv) (i : Nat) : (s.F i).oneCell' = true := swH_one _ _ _ _ _ _ _ _ _ _ _ _ _ i
set_option maxRecDepth 100000 in
set_option maxHeartbeats 8000000 in
theorem sw_alive (w : World) : Calls Try.prog 9 #[] w fun e w' => e = .returned (.bool true) ∧ Below w.heap.size w w' := by
  obtain ⟨s1, s2, r1, o1, t1, r2, o2, t2, a2, l2⟩ := alive_run
  have F1 : FeedIs (newV 9) [75, 4] (.ok s1) := r1 ▸ newV_feed 9 (by omega) [75, 4]
  have P1 : FedP (newV 9).most.toNat (newV 9).made.toNat ((newV 9).lA ++ [75, 4]) (newV 9).lw s1 := (F1.p (newV_ok 9 w)).1
  have r2' : runS ((newV 9).most.toNat - ((newV 9).made.toNat + s1.told.length)) (leftB ((newV 9).lA ++ [75, 4]) s1 ++ [0, 255]) ⟨leftA s1, s1.k, false, s1.win, []⟩ = .ok s2 := by rw [t1]; exact r2
  have hby1 : ∀ x ∈ [75, 4], x < 256 := by decide
  have hby2 : ∀ x ∈ [0, 255], x < 256 := by decide
  have hu1 : (#[.int .u8 75, .int .u8 4] : Array Value).toList = u8s [75, 4] := rfl
  have hu2 : (#[.int .u8 0, .int .u8 255] : Array Value).toList = u8s [0, 255] := rfl
  have H := Lib.hid (And.intro o1 (And.intro t1 (And.intro r2' (And.intro o2 (And.intro t2 (And.intro a2 l2))))))
  obtain ⟨b1, hb1'⟩ : ∃ b, b = [75, 4] := ⟨_, rfl⟩
  obtain ⟨b2, hb2'⟩ : ∃ b, b = [0, 255] := ⟨_, rfl⟩
  have n1 : 2 = b1.length := by rw [hb1']; rfl
  have n2 : 2 = b2.length := by rw [hb2']; rfl
  rw [← hb1'] at F1 P1 hby1 hu1 H
  rw [← hb2'] at hby2 hu2 H
  have HB := Lib.hid (And.intro hb1' hb2')
  have HU := Lib.hid (And.intro hu1 hu2)
  have HY := Lib.hid (And.intro hby1 hby2)
  have HN := Lib.hid (And.intro n1 n2)
  have HF1 := Lib.hid F1
  have HP1 := Lib.hid P1
  clear r1 r2 o1 t1 o2 t2 a2 l2 F1 P1 r2' hby1 hby2 hu1 hu2 hb1' hb2' n1 n2
  go_enter Try.func9, Try.ntmps9
  go_upto_region 2 with (first
    | (go_at_call 7; refine (snew_yes 9 _ (by omega) (by omega)).mono ?_; rintro e w1 ⟨rfl, hb1⟩)
    | (refine store_over rfl 32 (.tmp 1) (.tmp 13) (f := swN 9) (f0 := swZ) rfl rfl rfl (Blk.new _ _ _) sw_size (fun i _ => swH_one _ _ _ _ _ _ _ _ _ _ _ _ _ i) ?_; intro w2 k2 g2))
  have hb2 := box_sw hb1 g2
  have hcv1 := conv_const w2 w2.heap.size #[.int .u8 75, .int .u8 4] 2 2 rfl
  have hrd1 := (new_bytes w2 (some ⟨w2.heap.size, 0, none⟩) b1 #[.int .u8 75, .int .u8 4] 5 (2, 3) rfl HU.out.1 HY.out.1).rd (fun h => by cases h)
  have hb2a : Below w.heap.size w (w2.alloc (.cells #[.int .u8 75, .int .u8 4] 5 (2, 3))) := hb2.alloc hb2.size _
  clear hb1 g2 hb2
  go_upto_region 3 with (first
    | (refine load_arr rfl 32 (.tmp 1) rfl rfl k2 Try.underlying32 rfl sw_size ?_)
    | (go_at_call 8; refine (feed_to (newV_ok 9 _) hrd1 HN.out.1 (by omega) HY.out.1 HF1.out).mono ?_; rintro e w3 ⟨X1, T1, tn1, tc1, u1, rfl, M1⟩; have hone := wv_one X1; generalize hXF : X1.F = XF at *)
    | (refine store_over rfl 32 (.tmp 3) (.tmp 20) (f := XF) (f0 := swZ) rfl rfl rfl (Blk.new _ _ _) sw_size (fun i _ => hone i) ?_; intro w4 k4 g4))
  have hb3 := hb2a.trans (M1.only.mono hb2a.size)
  have hb4 := box_sw hb3 g4
  have hb34 := box_sw (Below.refl _ _) g4
  have hok4 := M1.val.below hb34
  have hT4 := own_below M1.told hb34
  have hc4 : (XF 44) = .bool s1.over := by rw [← hXF, ← M1.over_]; rfl
  have hF2 : FeedIs X1 b2 (.ok s2) := by have := M1.next HP1.out H.out.1 b2; rw [H.out.2.2.1] at this; exact this
  have etn1 : tn1 = 1 := by rw [M1.tn_, H.out.2.1]; rfl
  have eu1 : u1 = 2 := by rw [M1.used_]; unfold usedN; rw [H.out.1]; rfl
  have hnA : X1.nA = 1 := M1.lA_.2.trans H.out.2.2.2.2.2.2
  have HNA := Lib.hid hnA
  subst etn1 eu1
  have hcv2 := conv_const w4 w4.heap.size #[.int .u8 0, .int .u8 255] 2 2 rfl
  have hrd2 := (new_bytes w4 (some ⟨w4.heap.size, 0, none⟩) b2 #[.int .u8 0, .int .u8 255] 5 (2, 3) rfl HU.out.2 HY.out.2).rd (fun h => by cases h)
  have hb44a : Below w4.heap.size w4 (w4.alloc (.cells #[.int .u8 0, .int .u8 255] 5 (2, 3))) := (Below.refl _ _).alloc (Nat.le_refl _) _
  have hb4a := hb4.trans (hb44a.mono hb4.size)
  have HC2 := Lib.hid (feed_to (c := 2) (hok4.below hb44a) hrd2 HN.out.2 (by omega) HY.out.2 hF2)
  rw [hXF] at HC2
  have hT4a := own_below hT4 hb44a
  have k4a := Arr.below k4 hb44a (Blk.lt k4)
  have HC4 := Lib.hid hc4
  clear hb3 hb34 hok4 hF2 hnA hb4 hb44a hT4 hXF g4 k2 hcv1 hrd1 hb2a M1 hc4
  go_upto_region 4 with (first
    | (refine load_arr rfl 32 (.tmp 3) rfl rfl k4 Try.underlying32 rfl sw_size ?_)
    | (go_at_call 8; refine HC2.out.mono ?_; rintro e w5 ⟨X2, T2, tn2, tc2, u2, rfl, M2⟩; have hone2 := wv_one X2; generalize hXF2 : X2.F = XF2 at *)
    | (refine store_over rfl 32 (.tmp 7) (.tmp 29) (f := XF2) (f0 := swZ) rfl rfl rfl (Blk.new _ _ _) sw_size (fun i _ => hone2 i) ?_; intro w6 k6 g6))
  have hb5 := hb4a.trans (M2.only.mono hb4a.size)
  have hb6 := box_sw hb5 g6
  have hb56 := box_sw (Below.refl _ _) g6
  have hT6 := own_below (own_below hT4a M2.only) hb56
  have k46 := Arr.below (Arr.below k4a M2.only (Blk.lt k4a)) hb56 (Nat.lt_of_lt_of_le (Blk.lt k4a) M2.only.size)
  have etn2 : tn2 = 0 := by rw [M2.tn_, H.out.2.2.2.2.1]; rfl
  have eu2 : u2 = 1 := by rw [M2.used_, HNA.out]; unfold usedN; rw [H.out.2.2.2.1, H.out.2.2.2.2.2.1]; rfl
  subst etn2 eu2
  have c44x : w6.cell? ⟨w3.heap.size, 44, none⟩ = some (.bool false) := (Arr.cell k46 44 (by omega)).trans (congrArg some (by rw [HC4.out, H.out.1]))
  have c44y : w6.cell? ⟨w5.heap.size, 44, none⟩ = some (.bool true) := (Arr.cell k6 44 (by omega)).trans (congrArg some (by rw [← hXF2]; show Value.bool X2.over = _; rw [M2.over_, H.out.2.2.2.1]))
  have hcv := conv_bytes (P := Try.prog) w6 22 5 Try.underlying22 Try.underlying5 9 Try.underlying9 T1 [97] tc1 (rd_u8 (by have := own_rd hT6; rwa [H.out.2.1] at this) (by decide)) (fun h => by have := (own_rd hT6).2 h; rw [H.out.2.1] at this; simp [u8s] at this)
  have hs : str [97] = ⟨#[97]⟩ := rfl
  rw [hs] at hcv
  replace hcv : (convert 22 9 (.slice T1 1 tc1)).run Try.prog w6 = .ok (.string ⟨#[97]⟩) w6 := hcv
  clear k46 k4 k4a k6 hT6 hT4a hb5 hb56 g6 M2 hs hcv2 hrd2 hb4a
  go_wp2_with fail
  go_ret
  exact ⟨rfl, hb6⟩
end Go.Proofs.Ytahboomghjdjhaa

/-
  Walks: SwellKeeps.
-/
namespace Go.Proofs.Ytahboomghjdjhaa
open Go.RowKit

theorem str_extract (l : List Nat) (k : Nat) : (str l).extract k l.length = str (l.drop k) := by
  apply ByteArray.ext
  rw [ByteArray.data_extract]
  show (l.map UInt8.ofNat).toArray.extract k l.length = ((l.drop k).map UInt8.ofNat).toArray
  apply Array.toList_inj.1
  rw [Array.toList_extract]
  show (l.map UInt8.ofNat).extract k l.length = (l.drop k).map UInt8.ofNat
  rw [List.extract_eq_take_drop, List.map_drop, List.take_of_length_le (by rw [List.length_drop, List.length_map]; exact Nat.le_refl _)]
set_option maxRecDepth 100000 in
set_option maxHeartbeats 8000000 in
theorem law_skeeps (s : Wv) (B : Option Addr) (l : List Nat) (c : Nat) (w : World) (hin : s.inn w) (hl : InBs w B l) :
    Calls Try.prog 4 #[.agg (cellsOf 45 s.F), .slice B l.length c] w fun e w' => e = .returned (.bool true) ∧ Below w.heap.size w w' := by
  obtain ⟨hbs, hB, hm⟩ := hl
  have hrd : Rd w B (u8s l) := Bs.rd hbs hB
  have hbyte := hbs.2
  obtain ⟨n, hn⟩ : ∃ n, l.length = n := ⟨_, rfl⟩
  rw [hn]
  have hb0 : Below w.heap.size w (w.alloc (.cells (cellsOf 45 s.F) 32)) := (Below.refl _ _).alloc (Nat.le_refl _) _
  have k0 : Arr (w.alloc (.cells (cellsOf 45 s.F) 32)) w.heap.size 32 45 s.F := Blk.new _ _ _
  have HG := Lib.hid fun wx => great_any s B n c wx
  have HI := Lib.hid (And.intro hin (And.intro hrd (And.intro hn hbyte)))
  generalize hF : s.F = F at *
  have HF := Lib.hid hF
  clear hin hrd hbs hbyte hB hm hn hF
  go_enter Try.func4, Try.ntmps4
  go_upto_region 1 with (fail)
  change Code.wp _ _ _ _ (w.alloc (.cells (cellsOf 45 F) 32))
  generalize w.alloc (.cells (cellsOf 45 F) 32) = w0 at *
  obtain ⟨gs, hgs⟩ : ∃ g, w.heap.size = g := ⟨_, rfl⟩
  rw [hgs] at k0
  rw [hgs]
  have HGS := Lib.hid hgs
  clear hgs
  go_upto_region 2 with (go_at_call 9; refine (sw_alive _).mono ?_; rintro e w1 ⟨rfl, h1⟩; have k1 := Arr.below k0 h1 (Blk.lt k0); have hb1 := hb0.trans (h1.mono hb0.size))
  go_wp2_with (refine load_arr rfl 32 (.tmp 2) rfl rfl k1 Try.underlying32 rfl sw_size ?_)
  refine (HG.out _).mono ?_
  rintro e w2 ⟨g, rfl, h2, hg⟩
  have k2 := Arr.below k1 h2 (Blk.lt k1)
  have hb2 := hb1.trans (h2.mono hb1.size)
  clear k1 k0 hb1 hb0 h1 h2
  cases g with
  | true =>
    go_wp2_with fail
    go_ret
    exact ⟨rfl, hb2⟩
  | false =>
    obtain ⟨g1, g2, g3, g4, g5, g6⟩ := hg rfl
    have hok : s.ok w := HI.out.1.ok (by omega) (by omega) (by omega) (by omega)
    obtain ⟨o, FO⟩ := FeedIs.ex s l
    have HC := Lib.hid (feed_to (c := c) (hok.below hb2) (HI.out.2.1.below hb2) HI.out.2.2.1.symm (by omega) HI.out.2.2.2 FO)
    rw [HF.out] at HC
    have HO := Lib.hid (And.intro hok FO)
    have HGB := Lib.hid (And.intro g1 (And.intro g2 (And.intro g3 (And.intro g4 (And.intro g5 g6)))))
    clear hg g1 g2 g3 g4 g5 g6 hok FO
    cases o with
    | error E =>
      have hE := FeedIs.err HO.out.1 HO.out.2
      have he : (((E : Nat) : Int) != 0) = true := by rw [bne_iff_ne]; omega
      go_upto_region 5 with (first
        | (refine load_arr rfl 32 (.tmp 2) rfl rfl k2 Try.underlying32 rfl sw_size ?_)
        | (go_at_call 8; refine HC.out.mono ?_; rintro e w3 ⟨h3, rfl⟩)
        | (refine store_over rfl 32 (.tmp 6) (.tmp 24) (f := swZ) (f0 := swZ) rfl rfl rfl (Blk.new _ _ _) sw_size (fun i _ => swH_one _ _ _ _ _ _ _ _ _ _ _ _ _ i) ?_; intro w4 k4 g4))
      have hb3 := hb2.trans (h3.mono hb2.size)
      have hb4 := box_sw hb3 g4
      have c2 : w4.cell? ⟨w3.heap.size, 2, none⟩ = some (.slice none 0 0) := Arr.cell k4 2 (by omega)
      clear hb3 g4 hE
      go_wp2_with fail
      go_ret
      exact ⟨rfl, hb4⟩
    | ok s1 =>
      go_upto_region 5 with (first
        | (refine load_arr rfl 32 (.tmp 2) rfl rfl k2 Try.underlying32 rfl sw_size ?_)
        | (go_at_call 8; refine HC.out.mono ?_; rintro e w3 ⟨X, T, tn, tc, u, rfl, M⟩; have hone := wv_one X; generalize hXF : X.F = XF at *)
        | (refine store_over rfl 32 (.tmp 6) (.tmp 24) (f := XF) (f0 := swZ) rfl rfl rfl (Blk.new _ _ _) sw_size (fun i _ => hone i) ?_; intro w4 k4 g4))
      have hb3 := hb2.trans (M.only.mono hb2.size)
      have hb4 := box_sw hb3 g4
      have hb34 := box_sw (Below.refl _ _) g4
      have ks := Arr.below (Arr.below k2 M.only (Blk.lt k2)) hb34 (Nat.lt_of_lt_of_le (Blk.lt k2) M.only.size)
      obtain ⟨P1, hck, hov, p0, p1, p2⟩ := FeedIs.p HO.out.1 HO.out.2
      obtain ⟨m1, m2⟩ := M.made
      obtain ⟨l1, l2⟩ := M.lw_
      obtain ⟨a1, a2⟩ := M.lA_
      have u1 := M.used_
      have hXok := M.val.below hb34
      have hT4 := own_rd (own_below M.told hb34)
      have em : X.most = s.most := by rw [m1]; omega
      have ea : X.made = s.made + (tn : Int) := by rw [m2, M.tn_]; omega
      have hr1 : s.made + (tn : Int) ≤ s.most := by have := P1.room; rw [← M.tn_] at this; omega
      have hr2 : s.most ≤ 131072 := by have := P1.most_; omega
      have hr3 : X.nA ≤ 600 := by rw [a2]; exact P1.left
      have hr4 : u ≤ n := by rw [u1]; exact usedN_le P1.ok.at_ HO.out.1.lenA HI.out.2.2.1
      have hwin : s1.win = lastL 32768 (s.lw ++ s1.told) := P1.win
      have x0 : w4.cell? ⟨w3.heap.size, 0, none⟩ = some (.int .i64 s.most) := (Arr.cell k4 0 (by omega)).trans (congrArg some (by rw [← hXF, ← em]; rfl))
      have x1 : w4.cell? ⟨w3.heap.size, 1, none⟩ = some (.int .i64 (s.made + (tn : Int))) := (Arr.cell k4 1 (by omega)).trans (congrArg some (by rw [← hXF, ← ea]; rfl))
      have x2 : w4.cell? ⟨w3.heap.size, 2, none⟩ = some (.slice X.A X.nA X.cA) := (Arr.cell k4 2 (by omega)).trans (congrArg some (by rw [← hXF]; rfl))
      have y0 : w4.cell? ⟨gs, 0, none⟩ = some (.int .i64 s.most) := (Arr.cell ks 0 (by omega)).trans (congrArg some (by rw [← HF.out]; rfl))
      have y1 : w4.cell? ⟨gs, 1, none⟩ = some (.int .i64 s.made) := (Arr.cell ks 1 (by omega)).trans (congrArg some (by rw [← HF.out]; rfl))
      have e1 : decide (s.most < s.made + (tn : Int)) = false := decide_eq_false (by omega)
      have e2 : decide ((600 : Int) < (X.nA : Int)) = false := decide_eq_false (by omega)
      have e3 : decide (n < u) = false := decide_eq_false (by omega)
      have e4 : decide ((u : Int) < 0) = false := decide_eq_false (by omega)
      have ew : wrap64 (s.made + (tn : Int)) = s.made + (tn : Int) := IntWalk.wrap64_in _ (by omega)
      have HCK := Lib.hid (M.ck P1 ▸ scheck_any X w4 hXok : Calls Try.prog 10 #[.agg (cellsOf 45 X.F)] w4 fun r w' => CkdRes w4 w' true r)
      rw [hXF] at HCK
      have HX := Lib.hid (And.intro hXok (And.intro hT4 (And.intro hwin (And.intro l1 (And.intro l2 M.tn_)))))
      have HP := Lib.hid P1
      have HXF := Lib.hid hXF
      have HR := Lib.hid (And.intro hr1 (And.intro hr2 (And.intro hr3 hr4)))
      clear hb3 g4 hb34 P1 hck hov p2 m1 m2 l1 l2 a1 a2 u1 hXok hT4 em ea hr1 hr2 hr3 hwin hXF k2 M
      go_upto_region 9 with (first
        | (refine load_arrG (by rfl) 32 (.tmp 6) rfl rfl k4 Try.underlying32 rfl sw_size ?_)
        | (go_at_call 10; refine HCK.out.mono ?_; rintro e w5 ⟨rfl, h5⟩))
      have hb5 := hb4.trans (h5.mono hb4.size)
      have k5 := Arr.below k4 h5 (Blk.lt k4)
      have s5 := Arr.below ks h5 (Blk.lt ks)
      have y43 : w5.cell? ⟨gs, 43, none⟩ = some (.slice s.Bw s.nw s.cw) := (Arr.cell s5 43 (by omega)).trans (congrArg some (by rw [← HF.out]; rfl))
      have x43 : w5.cell? ⟨w3.heap.size, 43, none⟩ = some (.slice X.Bw X.nw X.cw) := (Arr.cell k5 43 (by omega)).trans (congrArg some (by rw [← HXF.out]; rfl))
      have hcs := conv_row w5 (HO.out.1.rw_.below hb5) HO.out.1.bw HO.out.1.lenw s.cw
      have hct := conv_row w5 (HX.out.2.1.below h5) HP.out.byte HX.out.2.2.2.2.2 tc
      have hcx := conv_row w5.drew ((HX.out.1.rw_.below h5).drew) HX.out.1.bw HX.out.1.lenw X.cw
      rw [HX.out.2.2.2.1] at hcx
      obtain ⟨all, hall⟩ : ∃ a, s.lw ++ s1.told = a := ⟨_, rfl⟩
      have hsum : str s.lw ++ str s1.told = str all := by rw [str_append, hall]
      have hnb : ¬ (9223372036854775807 < (str s.lw).size + (str s1.told).size) := by rw [str_size, str_size, ← HO.out.1.lenw, ← HX.out.2.2.2.2.2]; have := HGB.out; have := HR.out; omega
      obtain ⟨N, hN⟩ : ∃ N, all.length = N := ⟨_, rfl⟩
      have hsz : (str all).size = N := by rw [str_size, hN]
      have hN2 : N ≤ 200000 := by rw [← hN, ← hall, List.length_append, ← HO.out.1.lenw, ← HX.out.2.2.2.2.2]; have := HGB.out; have := HR.out; omega
      obtain ⟨k, hk⟩ : ∃ k, N - 32768 = k := ⟨_, rfl⟩
      have hw : wrap64 ((N : Int) - 32768) = (N : Int) - 32768 := IntWalk.wrap64_in _ (by omega)
      have hmx : (if 0 < (N : Int) - 32768 then (N : Int) - 32768 else 0) = (k : Int) := by split <;> omega
      have hkN : k ≤ N := by omega
      have hwl : s1.win = all.drop k := by rw [HX.out.2.2.1, hall]; unfold lastL; rw [hN, hk]
      rw [hwl] at hcx
      have HA := Lib.hid (And.intro hall (And.intro hN (And.intro hk hwl)))
      clear k4 ks k5 s5 x0 x1 x2 y0 y1 e1 e2 e3 e4 h5 hall hN hk hwl hN2
      go_upto_region 10 with fail
      clear hsum hcs hct hnb y43
      go_region
      have hq : ((str (all.drop k)).toList == ((str all).extract (if (32768 : Int) < (N : Int) then (N : Int) - 32768 else 0).toNat N).toList) = true := by
        rw [show (if (32768 : Int) < (N : Int) then (N : Int) - 32768 else 0).toNat = k from by have := HA.out.2.2.1; split <;> omega, ← HA.out.2.1, str_extract]
        simp
      rw [hq]
      go_wp2_with fail
      all_goals go_ret
      all_goals exact ⟨rfl, hb5.drew⟩
end Go.Proofs.Ytahboomghjdjhaa

/-
  Walks: SwellNames.
-/
namespace Go.Proofs.Ytahboomghjdjhaa
open Go.RowKit

theorem noV_ck : ckS noV = false := by decide
set_option maxRecDepth 100000 in
set_option maxHeartbeats 8000000 in
theorem law_snames (w : World) : Calls Try.prog 3 #[] w fun e w' => e = .returned (.bool true) ∧ Below w.heap.size w w' := by
  obtain ⟨s1, r1, o1, t1, a1⟩ := names_run
  have F1 : FeedIs (newV 9) [75, 4, 0] (.ok s1) := r1 ▸ newV_feed 9 (by omega) [75, 4, 0]
  have F2 : FeedIs (newV 0) [75, 4, 0] (.error 140) := err_of (o := runS 0 [75, 4, 0] ⟨0, none, false, [], []⟩) (n := 140) names_limit (by decide) ▸ newV_feed 0 (by omega) [75, 4, 0]
  have F3 : FeedIs (newV 9) [7] (.error 130) := err_of (o := runS 9 [7] ⟨0, none, false, [], []⟩) (n := 130) names_kind (by decide) ▸ newV_feed 9 (by omega) [7]
  have P1 : FedP (newV 9).most.toNat (newV 9).made.toNat ((newV 9).lA ++ [75, 4, 0]) (newV 9).lw s1 := (F1.p (newV_ok 9 w)).1
  have hby1 : ∀ x ∈ [75, 4, 0], x < 256 := by decide
  have hby2 : ∀ x ∈ [7], x < 256 := by decide
  have hu1 : (#[.int .u8 75, .int .u8 4, .int .u8 0] : Array Value).toList = u8s [75, 4, 0] := rfl
  have hu2 : (#[.int .u8 7] : Array Value).toList = u8s [7] := rfl
  have H := Lib.hid (And.intro o1 (And.intro t1 a1))
  obtain ⟨b1, hb1'⟩ : ∃ b, b = [75, 4, 0] := ⟨_, rfl⟩
  obtain ⟨b2, hb2'⟩ : ∃ b, b = [7] := ⟨_, rfl⟩
  have n1 : 3 = b1.length := by rw [hb1']; rfl
  have n2 : 1 = b2.length := by rw [hb2']; rfl
  rw [← hb1'] at F1 F2 P1 hby1 hu1
  rw [← hb2'] at F3 hby2 hu2
  have HU := Lib.hid (And.intro hu1 hu2)
  have HY := Lib.hid (And.intro hby1 hby2)
  have HN := Lib.hid (And.intro n1 n2)
  have HF := Lib.hid (And.intro F1 (And.intro F2 F3))
  have HP1 := Lib.hid P1
  clear r1 o1 t1 a1 F1 F2 F3 P1 hby1 hby2 hu1 hu2 hb1' hb2' n1 n2
  go_enter Try.func3, Try.ntmps3
  go_upto_region 2 with (first
    | (go_at_call 7; refine (snew_yes 9 _ (by omega) (by omega)).mono ?_; rintro e w1 ⟨rfl, hb1⟩)
    | (refine store_over rfl 32 (.tmp 1) (.tmp 27) (f := swN 9) (f0 := swZ) rfl rfl rfl (Blk.new _ _ _) sw_size (fun i _ => swH_one _ _ _ _ _ _ _ _ _ _ _ _ _ i) ?_; intro w2 k2 g2))
  have hb2 := box_sw hb1 g2
  have hcv1 := conv_const w2 w2.heap.size #[.int .u8 75, .int .u8 4, .int .u8 0] 3 3 rfl
  have hrd1 := (new_bytes w2 (some ⟨w2.heap.size, 0, none⟩) b1 #[.int .u8 75, .int .u8 4, .int .u8 0] 5 (3, 4) rfl HU.out.1 HY.out.1).rd (fun h => by cases h)
  have hb22 : Below w2.heap.size w2 (w2.alloc (.cells #[.int .u8 75, .int .u8 4, .int .u8 0] 5 (3, 4))) := (Below.refl _ _).alloc (Nat.le_refl _) _
  clear hb1 g2
  go_upto_region 3 with (first
    | (refine load_arr rfl 32 (.tmp 1) rfl rfl k2 Try.underlying32 rfl sw_size ?_)
    | (go_at_call 8; refine (feed_to (newV_ok 9 _) hrd1 HN.out.1 (by omega) HY.out.1 HF.out.1).mono ?_; rintro e w3 ⟨X1, T1, tn1, tc1, u1, rfl, M1⟩; have hone := wv_one X1; generalize hXF : X1.F = XF at *)
    | (refine store_over rfl 32 (.tmp 3) (.tmp 34) (f := XF) (f0 := swZ) rfl rfl rfl (Blk.new _ _ _) sw_size (fun i _ => hone i) ?_; intro w4 k4 g4))
  have hb24 : Below w2.heap.size w2 w4 := box_sw (hb22.trans (M1.only.mono hb22.size)) g4
  have hb4 := hb2.trans (hb24.mono hb2.size)
  have hb34 := box_sw (Below.refl _ _) g4
  have k24 := Arr.below k2 hb24 (Blk.lt k2)
  have hok4 := M1.val.below hb34
  have hT4 := own_below M1.told hb34
  have hc4 : (XF 44) = .bool true := by rw [← hXF, ← H.out.1, ← M1.over_]; rfl
  have etn1 : tn1 = 1 := by rw [M1.tn_, H.out.2.1]; rfl
  have eu1 : u1 = 3 := by rw [M1.used_]; unfold usedN; rw [H.out.1, H.out.2.2]; rfl
  have F4 := M1.none HP1.out H.out.1 []
  subst etn1 eu1
  have HX := Lib.hid (And.intro hok4 (And.intro hT4 (And.intro hc4 (And.intro F4 hXF))))
  clear hb22 hcv1 hrd1 k2 g4 M1 hb34 hb24 hb2 hok4 hT4 hc4 F4 hXF
  go_upto_region 4 with (first
    | (go_at_call 7; refine (snew_yes 0 _ (by omega) (by omega)).mono ?_; rintro e w5 ⟨rfl, h5⟩)
    | (refine store_over rfl 32 (.tmp 7) (.tmp 40) (f := swN 0) (f0 := swZ) rfl rfl rfl (Blk.new _ _ _) sw_size (fun i _ => swH_one _ _ _ _ _ _ _ _ _ _ _ _ _ i) ?_; intro w6 k6 g6))
  have h46 : Below w4.heap.size w4 w6 := box_sw h5 g6
  have hcv1 := conv_const w6 w6.heap.size #[.int .u8 75, .int .u8 4, .int .u8 0] 3 3 rfl
  have hrd1 := (new_bytes w6 (some ⟨w6.heap.size, 0, none⟩) b1 #[.int .u8 75, .int .u8 4, .int .u8 0] 5 (3, 4) rfl HU.out.1 HY.out.1).rd (fun h => by cases h)
  have hb66 : Below w6.heap.size w6 (w6.alloc (.cells #[.int .u8 75, .int .u8 4, .int .u8 0] 5 (3, 4))) := (Below.refl _ _).alloc (Nat.le_refl _) _
  clear h5 g6
  go_upto_region 5 with (first
    | (refine load_arr rfl 32 (.tmp 7) rfl rfl k6 Try.underlying32 rfl sw_size ?_)
    | (go_at_call 8; refine (feed_to (newV_ok 0 _) hrd1 HN.out.1 (by omega) HY.out.1 HF.out.2.1).mono ?_; rintro e w7 ⟨h7, rfl⟩)
    | (refine store_over rfl 32 (.tmp 9) (.tmp 47) (f := swZ) (f0 := swZ) rfl rfl rfl (Blk.new _ _ _) sw_size (fun i _ => swH_one _ _ _ _ _ _ _ _ _ _ _ _ _ i) ?_; intro w8 k8 g8))
  have h68 : Below w6.heap.size w6 w8 := box_sw (hb66.trans (h7.mono hb66.size)) g8
  have h48 := h46.trans (h68.mono h46.size)
  have k28 := Arr.below k24 h48 (Blk.lt k24)
  have hrd2 := (new_bytes w8 (some ⟨w8.heap.size, 0, none⟩) b2 #[.int .u8 7] 5 (0, 0) rfl HU.out.2 HY.out.2).rd (fun h => by cases h)
  have hb88 : Below w8.heap.size w8 (w8.alloc (.cells #[.int .u8 7] 5 (0, 0))) := (Below.refl _ _).alloc (Nat.le_refl _) _
  have k28a := Arr.below k28 hb88 (Blk.lt k28)
  clear h46 h68 hb66 hcv1 hrd1 k6 h7 g8 k8
  go_upto_region 6 with (first
    | (refine load_arr rfl 32 (.tmp 1) rfl rfl k28 Try.underlying32 rfl sw_size ?_)
    | (go_at_call 8; refine (feed_to (newV_ok 9 _) hrd2 HN.out.2 (by omega) HY.out.2 HF.out.2.2).mono ?_; rintro e w9 ⟨h9, rfl⟩)
    | (refine store_over rfl 32 (.tmp 13) (.tmp 55) (f := swZ) (f0 := swZ) rfl rfl rfl (Blk.new _ _ _) sw_size (fun i _ => swH_one _ _ _ _ _ _ _ _ _ _ _ _ _ i) ?_; intro wA kA gA))
  have h8A : Below w8.heap.size w8 wA := box_sw (hb88.trans (h9.mono hb88.size)) gA
  have h4A := h48.trans (h8A.mono h48.size)
  have kX := Arr.below k4 h4A (Blk.lt k4)
  have hokA := HX.out.1.below h4A
  have HC := Lib.hid (feed_to (n := 0) (c := 0) hokA (Rd.nil_ (w := wA)) rfl (by omega) (fun _ h => by cases h) HX.out.2.2.2.1)
  rw [HX.out.2.2.2.2] at HC
  clear h48 k28 hrd2 hb88 k28a h9 kA gA h8A k24 hokA
  go_upto_region 7 with (first
    | (refine load_arr rfl 32 (.tmp 3) rfl rfl kX Try.underlying32 rfl sw_size ?_)
    | (go_at_call 8; refine HC.out.mono ?_; rintro e wB ⟨hB, rfl⟩)
    | (refine store_over rfl 32 (.tmp 17) (.tmp 62) (f := swZ) (f0 := swZ) rfl rfl rfl (Blk.new _ _ _) sw_size (fun i _ => swH_one _ _ _ _ _ _ _ _ _ _ _ _ _ i) ?_; intro wC kC gC))
  have hAC : Below wA.heap.size wA wC := box_sw hB gC
  have h4C := h4A.trans (hAC.mono h4A.size)
  clear hB kC gC hAC h4A kX
  go_upto_region 8 with (first
    | (go_at_call 7; refine (snew_no (-1) _ (by omega)).mono ?_; rintro e wD ⟨rfl, hD⟩)
    | (refine store_over rfl 32 (.tmp 21) (.tmp 68) (f := swZ) (f0 := swZ) rfl rfl rfl (Blk.new _ _ _) sw_size (fun i _ => swH_one _ _ _ _ _ _ _ _ _ _ _ _ _ i) ?_; intro wE kE gE))
  have hCE : Below wC.heap.size wC wE := box_sw hD gE
  have h4E := h4C.trans (hCE.mono h4C.size)
  clear hD kE gE hCE h4C
  go_upto_region 9 with (first
    | (go_at_call 7; refine (snew_no 131073 _ (by omega)).mono ?_; rintro e wF ⟨rfl, hF⟩)
    | (refine store_over rfl 32 (.tmp 23) (.tmp 72) (f := swZ) (f0 := swZ) rfl rfl rfl (Blk.new _ _ _) sw_size (fun i _ => swH_one _ _ _ _ _ _ _ _ _ _ _ _ _ i) ?_; intro wG kG gG))
  have hEG : Below wE.heap.size wE wG := box_sw hF gG
  have h4G := h4E.trans (hEG.mono h4E.size)
  clear hF kG gG hEG h4E
  have HQ := Lib.hid fun wx (h : Below w4.heap.size w4 wx) => (show (convert 22 9 (.slice T1 1 tc1)).run Try.prog wx = .ok (.string ⟨#[97]⟩) wx from
    conv_row wx (l := [97]) (by have := own_rd (own_below HX.out.2.1 h); rwa [H.out.2.1] at this) (by decide) rfl tc1)
  have HZ := Lib.hid fun wx => (noV_ck ▸ scheck_any noV wx (noV_ok wx) : Calls Try.prog 10 #[.agg (cellsOf 45 noV.F)] wx fun r w' => CkdRes wx w' false r)
  go_wp2_with (first
    | (go_at_call 10; refine (HZ.out wH).mono ?_; rintro e wI ⟨rfl, hI⟩)
    | (go_at_call 9; refine (sw_alive _).mono ?_; rintro e wH ⟨rfl, hH⟩; have h4H := h4G.trans (hH.mono h4G.size); have cv := HQ.out wH h4H; have c44 : wH.cell? ⟨w3.heap.size, 44, none⟩ = some (.bool true) := (Arr.cell (Arr.below k4 h4H (Blk.lt k4)) 44 (by omega)).trans (congrArg some HX.out.2.2.1)))
  go_ret
  exact ⟨rfl, hb4.trans ((h4H.trans (hI.mono h4H.size)).mono hb4.size)⟩
end Go.Proofs.Ytahboomghjdjhaa
