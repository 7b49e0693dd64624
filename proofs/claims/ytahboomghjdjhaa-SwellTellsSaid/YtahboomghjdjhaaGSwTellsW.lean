/-
  Walks: SwellTells.
-/
import Derived.Test.YtahboomghjdjhaaG53
import Derived.Test.YtahboomghjdjhaaGOpen
namespace Go.Proofs.Ytahboomghjdjhaa
open Go.RowKit

theorem tel_div {nx v : Nat} (h : v = (nx + 7) / 8) : ((nx : Int) + 7) / 8 = (v : Int) := by omega
theorem tel_wrap {nx v : Nat} (h : v = (nx + 7) / 8) (hn : nx ≤ 1000000) : wrap64 (Int.tdiv ((nx : Int) + 7) 8) = (v : Int) := by
  rw [Int.tdiv_eq_ediv_of_nonneg (by omega), tel_div h, IntWalk.wrap64_in _ (by omega)]
theorem tel_le {nx v : Nat} (h : v = (nx + 7) / 8) (hv : v ≤ 300) : nx ≤ 2400 := by omega
theorem tel_sum {a b v : Nat} (h : a + b = v) : (a : Int) + (b : Int) = (v : Int) := by omega
theorem PreRes.told {w w' : World} {b : List Nat} {room : Nat} {r : Ending} {s : Ss} (h : PreRes w w' b room r) (hR : tellR room b 0 = .ok s) : ∃ A cc, r = .returned (.tuple #[.slice A s.told.length cc, .int .i64 0]) ∧ Below w.heap.size w w' ∧ Rd w' A (u8s s.told) := by
  obtain ⟨hb, h⟩ := h
  rw [hR] at h
  obtain ⟨A, cc, hr, hrd⟩ := h
  exact ⟨A, cc, hr, hb, hrd⟩
theorem tel_take (l : List Nat) (k : Nat) : (u8s l).take k = u8s (l.take k) := by simp [u8s, List.map_take]
theorem tel_drop (l : List Nat) (k : Nat) : (u8s l).drop k = u8s (l.drop k) := by simp [u8s, List.map_drop]
def TolIs (s : Wv) (n : Nat) (o : Except Nat Ss) (told : List Nat) (un : Nat) (e : Int) (F : Nat → Value) : Prop := match o with
  | .error E => told = [] ∧ un = 0 ∧ e = (E : Int)
  | .ok s2 => told = s2.told ∧ un = usedN s.nA n s2 ∧ e = 0 ∧ ∃ Y : Wv, cellsOf 45 F = cellsOf 45 Y.F ∧ Y.over = s2.over ∧ Y.made = ((s.made.toNat + s2.told.length : Nat) : Int)
/-- What a call of Feed has told. -/
theorem FeedAt.tells {W w w0 : World} {s : Wv} {n : Nat} {b : List Nat} {o : Except Nat Ss} {F : Nat → Value} {T : Option Addr} {tn tc : Nat} {u e : Int} (hs : s.ok w0) (hF : FeedIs s b o) (hb : b.length = n) (h : FeedAt W w s n b o (.tuple #[.agg (cellsOf 45 F), .slice T tn tc, .int .i64 u, .int .i64 e])) :
    ∃ (told : List Nat) (un : Nat), Rd w T (u8s told) ∧ tn = told.length ∧ u = (un : Int) ∧ un ≤ n ∧ told.length ≤ 131072 ∧ (∀ x ∈ told, x < 256) ∧ TolIs s n o told un e F := by
  cases o with
  | error E =>
    obtain ⟨_, h2, h3, h4⟩ := tup4_inj (show Value.tuple #[.agg (cellsOf 45 F), .slice T tn tc, .int .i64 u, .int .i64 e] = .tuple #[.agg (cellsOf 45 swZ), .slice none 0 0, .int .i64 0, .int .i64 (E : Int)] from h)
    injection h2 with h2 h2' h2''
    injection h3 with _ h3
    injection h4 with _ h4
    subst h2 h2' h2'' h3 h4
    exact ⟨[], 0, Rd.nil_, rfl, rfl, Nat.zero_le _, Nat.zero_le _, fun x hx => (by cases hx), rfl, rfl, rfl⟩
  | ok s2 =>
    obtain ⟨Y, T7, tn7, tc7, u', hv, MY⟩ := h
    obtain ⟨q1, q2, q3, q4⟩ := tup4_inj hv
    injection q1 with q1
    injection q2 with q2 q2' q2''
    injection q3 with _ q3
    injection q4 with _ q4
    subst q2 q2' q2'' q3 q4
    have P := (hF.p hs).1
    exact ⟨s2.told, u', MY.rd, MY.tn_, rfl, by rw [MY.used_]; exact usedN_le P.ok.at_ hs.lenA hb, by have := P.room; have := P.most_; omega, P.byte, rfl, MY.used_, rfl, Y, q1, MY.over_, MY.made.2⟩
/-- A region that appends and stores a stream. -/
def apD (W0 : World) (base g8 : Nat) (T : Option Addr) (tn tc m : Nat) (L : List Nat) (F : Nat → Value) (k : Nat) (vs : Nat → Value) (w : World) : Prop :=
  if k = 0 then w = W0
  else if k = 1 then ∃ A' c', vs 0 = .slice A' m c' ∧ w.ownsRow base 5 1 (.slice A' m c') m (u8s L) ∧ W0.grownBy w (Value.slice T tn tc).ownBlock
  else ∃ A' c' wc, vs 0 = .slice A' m c' ∧ wc.ownsRow base 5 1 (.slice A' m c') m (u8s L) ∧ W0.grownBy wc (Value.slice T tn tc).ownBlock ∧ Arr w g8 32 45 F ∧ wc.grownBy w (some g8)
theorem apD.arr {W0 w : World} {base g8 g : Nat} {T : Option Addr} {tn tc m : Nat} {L : List Nat} {F F' : Nat → Value} {k : Nat} {vs : Nat → Value} {xs : List Value} (h : apD W0 base g8 T tn tc m L F k vs w) (ho : W0.ownsRow base 5 1 (.slice T tn tc) tn xs) (hb : Arr W0 g 32 45 F') (hne : g ≠ g8 ∨ k ≤ 1) : Arr w g 32 45 F' := by
  unfold apD at h
  by_cases h0 : k = 0
  · rw [if_pos h0] at h; subst h; exact hb
  · rw [if_neg h0] at h
    by_cases h1 : k = 1
    · rw [if_pos h1] at h
      obtain ⟨A', c', _, _, hg⟩ := h
      exact Blk.grown hb hg (own_blk_ne ho hb (by decide)).symm
    · rw [if_neg h1] at h
      obtain ⟨A', c', wc, _, _, hg, _, hg2⟩ := h
      exact Blk.grown (Blk.grown hb hg (own_blk_ne ho hb (by decide)).symm) hg2 (by intro e; injection e with e; omega)
set_option maxRecDepth 100000 in
set_option maxHeartbeats 2000000 in
/-- .. where the limit is below 0, or bytes or numbers are not so that the law asks. -/
theorem tells_out (B : Option Addr) (n c : Nat) (most cut : Int) (w : World) (hn : n ≤ 9223372036854775807) (hw : 300 < n ∨ 4000 < most ∨ cut < 0 ∨ (n : Int) < cut) :
    Calls Try.prog 6 #[.slice B n c, .int .i64 most, .int .i64 cut] w fun e w' => e = .returned (.bool true) ∧ Below w.heap.size w w' := by
  by_cases g1 : 300 < n
  · have e1 : decide ((300 : Int) < (n : Int)) = true := decide_eq_true (by omega)
    have e1' : decide (300 < n) = true := decide_eq_true g1
    clear hw
    go_enter Try.func6, Try.ntmps6
    go_wp2_with (go_at_call 9; refine (sw_alive _).mono ?_; rintro e w1 ⟨rfl, h1⟩)
    go_ret
    exact ⟨rfl, h1⟩
  · have e1 : decide ((300 : Int) < (n : Int)) = false := decide_eq_false (by omega)
    have e1' : decide (300 < n) = false := decide_eq_false g1
    by_cases g2 : 4000 < most
    · have e2 : decide (4000 < most) = true := decide_eq_true g2
      clear hw
      go_enter Try.func6, Try.ntmps6
      go_wp2_with (go_at_call 9; refine (sw_alive _).mono ?_; rintro e w1 ⟨rfl, h1⟩)
      go_ret
      exact ⟨rfl, h1⟩
    · have e2 : decide (4000 < most) = false := decide_eq_false g2
      by_cases g3 : cut < 0
      · have e3 : decide (cut < 0) = true := decide_eq_true g3
        clear hw
        go_enter Try.func6, Try.ntmps6
        go_wp2_with (go_at_call 9; refine (sw_alive _).mono ?_; rintro e w1 ⟨rfl, h1⟩)
        go_ret
        exact ⟨rfl, h1⟩
      · have e3 : decide (cut < 0) = false := decide_eq_false g3
        have e4 : decide ((n : Int) < cut) = true := decide_eq_true (by omega)
        clear hw
        go_enter Try.func6, Try.ntmps6
        go_wp2_with (go_at_call 9; refine (sw_alive _).mono ?_; rintro e w1 ⟨rfl, h1⟩)
        go_ret
        exact ⟨rfl, h1⟩
set_option maxRecDepth 100000 in
set_option maxHeartbeats 2000000 in
theorem tells_low (B : Option Addr) (n c k : Nat) (most : Int) (w : World) (hn : n ≤ 300) (hk : k ≤ n) (h0 : most < 0) :
    Calls Try.prog 6 #[.slice B n c, .int .i64 most, .int .i64 (k : Int)] w fun e w' => e = .returned (.bool true) ∧ Below w.heap.size w w' := by
  have e1 : decide ((300 : Int) < (n : Int)) = false := decide_eq_false (by omega)
  have e1' : decide (300 < n) = false := decide_eq_false (by omega)
  have e2 : decide (4000 < most) = false := decide_eq_false (by omega)
  have e3 : decide ((k : Int) < 0) = false := decide_eq_false (by omega)
  have e4 : decide (n < k) = false := decide_eq_false (by omega)
  go_enter Try.func6, Try.ntmps6
  go_upto_region 2 with (go_at_call 9; refine (sw_alive _).mono ?_; rintro e w1 ⟨rfl, h1⟩)
  go_upto_region 5 with (first
    | (go_at_call 7; refine (snew_no most _ (by omega)).mono ?_; rintro e w2 ⟨rfl, h2⟩)
    | (refine store_over rfl 32 (.tmp 8) (.tmp 49) (f := swZ) (f0 := swZ) rfl rfl rfl (Blk.new _ _ _) sw_size (fun i _ => swH_one _ _ _ _ _ _ _ _ _ _ _ _ _ i) ?_; intro w3 k3 g3))
  have hb3 := box_sw (h1.trans (h2.mono h1.size)) g3
  clear k3 g3 h1 h2
  go_wp2_with (go_at_call 13; refine (inflate_no B n c most _ (by omega) h0).mono ?_; rintro e w4 ⟨rfl, h4⟩)
  go_ret
  exact ⟨rfl, hb3.trans (h4.mono hb3.size)⟩
set_option maxRecDepth 100000 in
set_option maxHeartbeats 16000000 in
theorem tells_in (B : Option Addr) (l : List Nat) (n c k room : Nat) (w : World) (hrd : Rd w B (u8s l)) (hl : n = l.length) (hy : ∀ x ∈ l, x < 256) (hcap : n ≤ c) (hn : n ≤ 300) (hk : k ≤ n) (hroom : room ≤ 4000) :
    Calls Try.prog 6 #[.slice B n c, .int .i64 (room : Int), .int .i64 (k : Int)] w fun e w' => e = .returned (.bool true) ∧ Below w.heap.size w w' := by
  have e1 : decide ((300 : Int) < (n : Int)) = false := decide_eq_false (by omega)
  have e1' : decide (300 < n) = false := decide_eq_false (by omega)
  have e2 : decide ((4000 : Int) < (room : Int)) = false := decide_eq_false (by omega)
  have e2' : decide (4000 < room) = false := decide_eq_false (by omega)
  have e3 : decide ((k : Int) < 0) = false := decide_eq_false (by omega)
  have e4 : decide (n < k) = false := decide_eq_false (by omega)
  have htl : k = (l.take k).length := by rw [List.length_take]; omega
  have HI := Lib.hid (And.intro hrd (And.intro hl (And.intro hy htl)))
  clear hrd hl hy htl
  go_enter Try.func6, Try.ntmps6
  go_upto_region 2 with (go_at_call 9; refine (sw_alive _).mono ?_; rintro e w1 ⟨rfl, h1⟩)
  go_upto_region 5 with (first
    | (go_at_call 7; refine (snew_yes (room : Int) _ (by omega) (by omega)).mono ?_; rintro e w2 ⟨rfl, h2⟩)
    | (refine store_over rfl 32 (.tmp 8) (.tmp 49) (f := swN (room : Int)) (f0 := swZ) rfl rfl rfl (Blk.new _ _ _) sw_size (fun i _ => swH_one _ _ _ _ _ _ _ _ _ _ _ _ _ i) ?_; intro w3 k3 g3))
  have hb3 := box_sw (h1.trans (h2.mono h1.size)) g3
  clear g3 h1 h2 e1 e1' e2 e2' e3 e4
  have HIN := Lib.hid (inflate_any B n c l room w3 (HI.out.1.below hb3) HI.out.2.2.1 HI.out.2.1 (by omega) (by omega))
  go_upto_region 8 with (go_at_call 13; refine HIN.out.mono ?_; rintro e w4 hinf; obtain ⟨A, wn, cc, nx, ff, rfl, h4, hI⟩ := hinf.shape)
  have hb4 := hb3.trans (h4.mono hb3.size)
  have k4 := Arr.below k3 h4 (Blk.lt k3)
  generalize w2.heap.size = gs at *
  obtain ⟨o1, ho1⟩ : ∃ o1, runS room (l.take k) s00 = o1 := ⟨_, rfl⟩
  have F1 : FeedIs (newV (room : Int)) (l.take k) o1 := ho1 ▸ newV_feed room (by omega) (l.take k)
  have hRl : l.take k ++ l.drop k = l := List.take_append_drop k l
  rw [← hRl] at hI
  have HC := Lib.hid fun wx (hb : Below w4.drew.heap.size w4.drew wx) => (feed_to (c := c) (newV_ok (room : Int) wx) (tel_take l k ▸ ((HI.out.1.below hb4).drew.below hb).take k : Rd wx B (u8s (l.take k))) HI.out.2.2.2 (by omega) (fun x hx => HI.out.2.2.1 x (List.mem_of_mem_take hx)) F1 : Calls Try.prog 8 #[.agg (cellsOf 45 (newV (room : Int)).F), .slice B k c] wx fun r w' => FeedTo wx w' (newV (room : Int)) k (l.take k) o1 r)
  have HR := Lib.hid (And.intro ho1 (And.intro F1 hI))
  have hXN : ∀ i, swN (room : Int) i = (newV (room : Int)).F i := fun _ => rfl
  clear hI ho1 F1 hRl h4 HIN k3 hb3
  have hkc : k ≤ c := by omega
  refine wp_region_moves w4.drew (fun i => if i = 4 then some ShapeT else if i = 10 then some (fun v => ∃ g, v = .pointer (some ⟨g, 0, none⟩)) else if i = 11 then some (fun _ => True) else none)
    (chainF 174 [4, 5, 6, 11] [some 71, some 66, some 72, none] [] 10 13 (feD w4.drew (newV (room : Int)) k (l.take k) o1)) (by kernel_rfl) (by kernel_rfl) (by kernel_rfl) (by kernel_rfl) (chainF_new rfl feD_start) ?_
  have hread : ∀ kk f vs va w, feD w4.drew (newV (room : Int)) k (l.take k) o1 kk f vs va w → Arr w gs 32 45 (swN (room : Int)) := fun kk f vs va w h => Arr.below (Arr.drew k4) (feD_bel h) (Blk.lt (Arr.drew k4))
  refine moveF_read (v := .agg (cellsOf 45 (swN (room : Int)))) (by decide) (by decide) (by decide) rfl ⟨0, false, fun _ => undef, undef, feD_start⟩ (fun kk f vs va w h => ?_) (fun K hK => ?_)
  · exact run_row 32 (.tmp 8) rfl rfl (hread _ _ _ _ _ h) Try.underlying32 rfl sw_size
  go_simp
  refine hK _ ?_
  clear hK K
  refine moveF_read (v := .slice B n c) (by decide) (by decide) (by decide) rfl ⟨0, false, fun _ => undef, undef, feD_start⟩ (fun kk f vs va w h => ?_) (fun K hK => ?_)
  · go_simp
  go_simp
  refine hK _ ?_
  clear hK K
  refine moveF_read (v := .int .i64 (k : Int)) (by decide) (by decide) (by decide) rfl ⟨0, false, fun _ => undef, undef, feD_start⟩ (fun kk f vs va w h => ?_) (fun K hK => ?_)
  · go_simp
  go_simp
  refine hK _ ?_
  clear hK K
  refine moveF_read (v := .slice B k c) (by decide) (by decide) (by decide) rfl ⟨0, false, fun _ => undef, undef, feD_start⟩ (fun kk f vs va w h => ?_) (fun K hK => ?_)
  · exact run_uptoO (.tmp 68) (.tmp 69) rfl Try.underlying22 (by kernel_rfl) rfl rfl hkc
  go_simp
  refine hK _ ?_
  clear hK K
  refine moveF_at 0 ShapeT rfl (by decide) rfl (by decide) (by decide) rfl (by decide) (tel_dd rfl) (by first | kernel_rfl | decide | simp [Region.binds]) (fun d hd => by first | (cases hd; done) | (cases hd; decide)) rfl ⟨_, (⟨swZ, none, 0, 0, 0, 0, rfl, fun i => swH_one _ _ _ _ _ _ _ _ _ _ _ _ _ i⟩ : ShapeT _)⟩ (fun f vs va w h hf hvs hva => ?_) (fun v hv K hK => ?_)
  · clear hvs hva
    go_simp
    refine (HC.out _ (feD_bel h)).mono ?_
    rintro e w' hft
    obtain ⟨v, rfl, hat, hb⟩ := hft.at_ (feD_bel h)
    exact ⟨v, rfl, hat.shape, feD_1 h hat hb⟩
  obtain ⟨XF, T, tn, tc, u, e, rfl, hone⟩ := hv
  go_simp
  refine hK _ ?_
  clear hK K
  refine moveF_pure 1 (v := .tuple #[.agg (cellsOf 45 XF), .slice T tn tc, .int .i64 u, .int .i64 e]) rfl (by decide) rfl (by decide) (by decide) rfl (by decide) (tel_dd rfl) (by first | kernel_rfl | decide | simp [Region.binds]) (fun d hd => by first | (cases hd; done) | (cases hd; decide)) rfl ⟨0, false, fun _ => undef, undef, feD_start⟩ (fun kk f vs va w h => ?_) (fun f vs va w h => feD_on h (by omega) (by omega) rfl) (fun K hK => ?_)
  · go_simp
  go_simp
  refine hK _ ?_
  clear hK K
  refine moveF_pure 2 (v := .agg (cellsOf 45 XF)) rfl (by decide) rfl (by decide) (by decide) rfl (by decide) (tel_dd rfl) (by first | kernel_rfl | decide | simp [Region.binds]) (fun d hd => by first | (cases hd; done) | (cases hd; decide)) rfl ⟨0, false, fun _ => undef, undef, feD_start⟩ (fun kk f vs va w h => ?_) (fun f vs va w h => feD_on h (by omega) (by omega) rfl) (fun K hK => ?_)
  · go_simp
  go_simp
  refine hK _ ?_
  clear hK K
  refine moveF_read (v := .slice T tn tc) (by decide) (by decide) (by decide) rfl ⟨0, false, fun _ => undef, undef, feD_start⟩ (fun kk f vs va w h => ?_) (fun K hK => ?_)
  · go_simp
  go_simp
  refine hK _ ?_
  clear hK K
  refine moveF_read (v := .int .i64 u) (by decide) (by decide) (by decide) rfl ⟨0, false, fun _ => undef, undef, feD_start⟩ (fun kk f vs va w h => ?_) (fun K hK => ?_)
  · go_simp
  go_simp
  refine hK _ ?_
  clear hK K
  refine moveF_read (v := .int .i64 e) (by decide) (by decide) (by decide) rfl ⟨0, false, fun _ => undef, undef, feD_start⟩ (fun kk f vs va w h => ?_) (fun K hK => ?_)
  · go_simp
  go_simp
  refine hK _ ?_
  clear hK K
  refine moveF_free (fun v => ∃ g, v = .pointer (some ⟨g, 0, none⟩)) rfl (by decide) rfl (by decide) (by decide) (by decide) rfl ⟨_, 0, rfl⟩ (fun kk vs va w h => ?_) (fun v hv K hK => ?_)
  · go_simp
    exact ⟨⟨_, rfl⟩, feD_free h⟩
  obtain ⟨g8, rfl⟩ := hv
  go_simp
  refine hK _ ?_
  clear hK K
  refine moveF_at 3 (fun _ => True) rfl (by decide) rfl (by decide) (by decide) rfl (by decide) (tel_dd rfl) (by first | kernel_rfl | decide | simp [Region.binds]) (fun d hd => by first | (cases hd; done) | (cases hd; decide)) rfl ⟨undef, trivial⟩ (fun f vs va w h hf hvs hva => ?_) (fun v hv K hK => ?_)
  · have hft : f = true := hf (by first | rfl | kernel_rfl | decide)
    obtain ⟨g', cf, hva', hge, kk, hsw, _⟩ := h.2.2.1 hft
    have h8 : va = .pointer (some ⟨g8, 0, none⟩) := hva (by simp [Op.operands, Call.operands])
    have h44 : vs 2 = .agg (cellsOf 45 XF) := hvs 2 72 rfl (by simp [Op.operands, Call.operands])
    have eg : g' = g8 := by
      have e1 : Value.pointer (some ⟨g', 0, none⟩) = Value.pointer (some ⟨g8, 0, none⟩) := hva'.symm.trans h8
      injection e1 with e1
      injection e1 with e1
      injection e1 with e1
    subst eg
    exact lands_overw 32 (.tmp 13) (.tmp 72) rfl rfl rfl kk sw_size (fun i _ => hone i) (fun w' k' hg => ⟨trivial, feD_4 h hft hva' hge kk k' hg rfl h44⟩)
  clear hv
  go_simp
  refine hK _ ?_
  clear hK K
  refine moveF_read (v := .slice T tn tc) (by decide) (by decide) (by decide) rfl ⟨0, false, fun _ => undef, undef, feD_start⟩ (fun kk f vs va w h => ?_) (fun K hK => ?_)
  · go_simp
  go_simp
  refine hK _ ?_
  clear hK K
  refine moveF_read (v := .int .i64 u) (by decide) (by decide) (by decide) rfl ⟨0, false, fun _ => undef, undef, feD_start⟩ (fun kk f vs va w h => ?_) (fun K hK => ?_)
  · go_simp
  go_simp
  refine hK _ ?_
  clear hK K
  refine moveF_read (v := .int .i64 e) (by decide) (by decide) (by decide) rfl ⟨0, false, fun _ => undef, undef, feD_start⟩ (fun kk f vs va w h => ?_) (fun K hK => ?_)
  · go_simp
  go_simp
  refine hK _ ?_
  clear hK K
  clear hread
  show ∀ L w', _ → _ → _
  intro L w5 hL hC
  have hE := chainF_end hC hL (by decide) (by decide)
  clear hL hC
  obtain ⟨hbD, hfa, hcell, _⟩ := hE
  replace hfa : FeedAt w4.drew w5 (newV (room : Int)) k (l.take k) o1 (.tuple #[.agg (cellsOf 45 XF), .slice T tn tc, .int .i64 u, .int .i64 e]) := hfa (by decide)
  obtain ⟨g', cf, eP, hgeg8, k5', _, hcf⟩ := hcell rfl
  have ecf : cellsOf 45 XF = cellsOf 45 cf := by
    have h : Value.agg (cellsOf 45 XF) = .agg (cellsOf 45 cf) := hcf (by decide)
    injection h
  have eg : g8 = g' := by
    have h : Value.pointer (some ⟨g8, 0, none⟩) = .pointer (some ⟨g', 0, none⟩) := eP
    injection h with h
    injection h with h
    injection h with h
  subst eg
  have k5 : Arr w5 g8 32 45 XF := arr_is k5' ecf
  clear hcell eP hcf k5' ecf
  have hb45 : Below w4.heap.size w4 w5 := Below.undrew hbD
  have hb5 := hb4.trans (hb45.mono hb4.size)
  have hI5 := HR.out.2.2.below hb45
  clear HC hone k4 hXN
  cases o1 with
  | error E =>
    obtain ⟨_, h2, h3, h4⟩ := tup4_inj (show Value.tuple #[.agg (cellsOf 45 XF), .slice T tn tc, .int .i64 u, .int .i64 e] = .tuple #[.agg (cellsOf 45 swZ), .slice none 0 0, .int .i64 0, .int .i64 (E : Int)] from hfa)
    injection h2 with h2 h2' h2''
    injection h3 with _ h3
    injection h4 with _ h4
    subst h2 h2' h2'' h3 h4
    obtain ⟨hR, hE0, hE10⟩ := tell_one (b := l.drop k) HR.out.1
    rw [hR] at hI5
    obtain rfl : ff = E := hI5.1
    have q0 : ((ff : Int) == 0) = false := by rw [beq_eq_false_iff_ne]; omega
    have q10 : ((ff : Int) != 10) = true := by rw [bne_iff_ne]; omega
    have q0' : ¬ ((ff : Int) = 0) := by omega
    clear hfa hI5 hR HR hb45 hbD
    go_wp2_with fail
    go_ret
    exact ⟨rfl, hb5⟩
  | ok s1 =>
    obtain ⟨X, T7, tn7, tc7, u', hv, MX⟩ := hfa
    obtain ⟨q1, q2, q3, q4⟩ := tup4_inj hv
    injection q1 with q1
    injection q2 with q2 q2' q2''
    injection q3 with _ q3
    injection q4 with _ q4
    subst q2 q2' q2'' q3 q4
    have kx : Arr w5 g8 32 45 X.F := arr_is k5 q1.symm
    have P1 := (HR.out.2.1.p (newV_ok (room : Int) w5)).1
    have hov : w5.cell? ⟨g8, 44, none⟩ = some (.bool s1.over) := (Arr.cell kx 44 (by omega)).trans (congrArg some (by show Value.bool X.over = _; rw [MX.over_]))
    clear hv q1 k5
    cases ho : s1.over with
    | true =>
      rw [ho] at hov
      have hR := tell_over (b := l.drop k) HR.out.1 ho
      rw [hR] at hI5
      obtain ⟨h1, h2, h3, hrdA⟩ := hI5.1 ho
      subst h1 h2 h3
      have hmd : w5.cell? ⟨g8, 1, none⟩ = some (.int .i64 (s1.told.length : Int)) := (Arr.cell kx 1 (by omega)).trans (congrArg some (by show Value.int .i64 X.made = _; rw [MX.made.2]; simp [newV]))
      have hu : u' = (s1.a + 7) / 8 := by rw [MX.used_]; unfold usedN; rw [ho]; rfl
      have hat : s1.a ≤ 2400 := by have := P1.ok.at_; have h := HI.out.2.2.2; simp only [newV, List.nil_append] at this; omega
      have htn := MX.tn_
      have hbyt := P1.byte
      have hrdT := MX.rd
      subst htn
      have hcx := conv_row w5 hrdT hbyt rfl tc
      have hcy := conv_row w5 hrdA hbyt rfl cc
      have hq : ((s1.a : Int) + 7) / 8 = (u' : Int) := by omega
      have hq2 : wrap64 (Int.tdiv ((s1.a : Int) + 7) 8) = (u' : Int) := by
        rw [Int.tdiv_eq_ediv_of_nonneg (by omega), hq, IntWalk.wrap64_in _ (by omega)]
      have HU := Lib.hid hu
      generalize s1.told.length = tl at *
      generalize str s1.told = st at *
      generalize s1.a = sa at *
      clear hI5 hR HR hb45 hbD MX kx P1 hbyt hrdT hrdA ho hu
      go_wp2_with fail
      go_ret
      exact ⟨rfl, hb5⟩
    | false =>
      rw [ho] at hov
      have hr1 : s1.told.length ≤ room := by have := P1.room; simp only [newV] at this; omega
      have hR := tell_on (b := l.drop k) HR.out.1 ho hr1
      obtain ⟨o2, ho2⟩ : ∃ o2, runS (room - s1.told.length) (leftB (l.take k) s1 ++ l.drop k) ⟨leftA s1, s1.k, false, s1.win, []⟩ = o2 := ⟨_, rfl⟩
      have F2 : FeedIs X (l.drop k) o2 := by
        have h := MX.next P1 ho (l.drop k)
        have e : (newV (room : Int)).most.toNat - ((newV (room : Int)).made.toNat + s1.told.length) = room - s1.told.length := by simp [newV]
        rw [e] at h
        exact ho2 ▸ h
      rw [ho2] at hR
      obtain ⟨B', hc1, hc2⟩ := run_from (P := Try.prog) (t := 22) Try.underlying22 (by kernel_rfl) (A := B) (n := n) (c := c) (i := (k : Int)) k rfl hk hcap
      have HCUT := Lib.hid (And.intro hc1 hc2)
      obtain ⟨XG, hXG⟩ : ∃ XG, X.F = XG := ⟨_, rfl⟩
      have hXd := MX.val.below (Below.refl w5.heap.size w5).drew
      have HC2 := Lib.hid fun wx (hb : Below w5.drew.heap.size w5.drew wx) => (hXG ▸ feed_to (c := c - k) (hXd.below hb) (tel_drop l k ▸ HCUT.out.2 wx (u8s l) (by rw [u8s_length, HI.out.2.1]) ((HI.out.1.below hb5).drew.below hb)) (show n - k = (l.drop k).length by rw [List.length_drop, HI.out.2.1]) (by omega) (fun x hx => HI.out.2.2.1 x (List.mem_of_mem_drop hx)) F2 : Calls Try.prog 8 #[.agg (cellsOf 45 XG), .slice B' (n - k) (c - k)] wx fun r w' => FeedTo wx w' X (n - k) (l.drop k) o2 r)
      rw [hXG] at kx
      have HX := Lib.hid (And.intro MX (And.intro P1 (And.intro ho (And.intro hR (And.intro F2 (And.intro ho2 hr1))))))
      clear hc1 hc2 hXd F2 hR MX P1 ho hXG hr1 ho2
      go_upto_region 10 with fail
      refine wp_region_moves w5.drew (fun i => if i = 4 then some ShapeT else if i = 10 then some (fun v => ∃ g, v = .pointer (some ⟨g, 0, none⟩)) else if i = 11 then some (fun _ => True) else none)
        (chainF 174 [4, 5, 6, 11] [some 88, some 83, some 89, none] [] 10 17 (feD w5.drew X (n - k) (l.drop k) o2)) (by kernel_rfl) (by kernel_rfl) (by kernel_rfl) (by kernel_rfl) (chainF_new rfl feD_start) ?_
      have hread : ∀ kk f vs va w, feD w5.drew X (n - k) (l.drop k) o2 kk f vs va w → Arr w g8 32 45 XG := fun kk f vs va w h => Arr.below (Arr.drew kx) (feD_bel h) (Blk.lt (Arr.drew kx))
      refine moveF_read (v := .agg (cellsOf 45 XG)) (by decide) (by decide) (by decide) rfl ⟨0, false, fun _ => undef, undef, feD_start⟩ (fun kk f vs va w h => ?_) (fun K hK => ?_)
      · exact run_row 32 (.tmp 13) rfl rfl (hread _ _ _ _ _ h) Try.underlying32 rfl sw_size
      go_simp
      refine hK _ ?_
      clear hK K
      refine moveF_read (v := .slice B n c) (by decide) (by decide) (by decide) rfl ⟨0, false, fun _ => undef, undef, feD_start⟩ (fun kk f vs va w h => ?_) (fun K hK => ?_)
      · go_simp
      go_simp
      refine hK _ ?_
      clear hK K
      refine moveF_read (v := .int .i64 (k : Int)) (by decide) (by decide) (by decide) rfl ⟨0, false, fun _ => undef, undef, feD_start⟩ (fun kk f vs va w h => ?_) (fun K hK => ?_)
      · go_simp
      go_simp
      refine hK _ ?_
      clear hK K
      refine moveF_read (v := .slice B' (n - k) (c - k)) (by decide) (by decide) (by decide) rfl ⟨0, false, fun _ => undef, undef, feD_start⟩ (fun kk f vs va w h => ?_) (fun K hK => ?_)
      · exact run_fromO (.tmp 85) (.tmp 86) rfl Try.underlying22 rfl rfl (HCUT.out.1 _)
      go_simp
      refine hK _ ?_
      clear hK K
      refine moveF_at 0 ShapeT rfl (by decide) rfl (by decide) (by decide) rfl (by decide) (tel_dd rfl) (by first | kernel_rfl | decide | simp [Region.binds]) (fun d hd => by first | (cases hd; done) | (cases hd; decide)) rfl ⟨_, (⟨swZ, none, 0, 0, 0, 0, rfl, fun i => swH_one _ _ _ _ _ _ _ _ _ _ _ _ _ i⟩ : ShapeT _)⟩ (fun f vs va w h hf hvs hva => ?_) (fun v hv K hK => ?_)
      · clear hvs hva
        go_simp
        refine (HC2.out _ (feD_bel h)).mono ?_
        rintro e w' hft
        obtain ⟨v, rfl, hat, hb⟩ := hft.at_ (feD_bel h)
        exact ⟨v, rfl, hat.shape, feD_1 h hat hb⟩
      obtain ⟨YF, T2, tn2, tc2, u2, e2, rfl, hone2⟩ := hv
      go_simp
      refine hK _ ?_
      clear hK K
      refine moveF_pure 1 (v := .tuple #[.agg (cellsOf 45 YF), .slice T2 tn2 tc2, .int .i64 u2, .int .i64 e2]) rfl (by decide) rfl (by decide) (by decide) rfl (by decide) (tel_dd rfl) (by first | kernel_rfl | decide | simp [Region.binds]) (fun d hd => by first | (cases hd; done) | (cases hd; decide)) rfl ⟨0, false, fun _ => undef, undef, feD_start⟩ (fun kk f vs va w h => ?_) (fun f vs va w h => feD_on h (by omega) (by omega) rfl) (fun K hK => ?_)
      · go_simp
      go_simp
      refine hK _ ?_
      clear hK K
      refine moveF_pure 2 (v := .agg (cellsOf 45 YF)) rfl (by decide) rfl (by decide) (by decide) rfl (by decide) (tel_dd rfl) (by first | kernel_rfl | decide | simp [Region.binds]) (fun d hd => by first | (cases hd; done) | (cases hd; decide)) rfl ⟨0, false, fun _ => undef, undef, feD_start⟩ (fun kk f vs va w h => ?_) (fun f vs va w h => feD_on h (by omega) (by omega) rfl) (fun K hK => ?_)
      · go_simp
      go_simp
      refine hK _ ?_
      clear hK K
      refine moveF_read (v := .slice T2 tn2 tc2) (by decide) (by decide) (by decide) rfl ⟨0, false, fun _ => undef, undef, feD_start⟩ (fun kk f vs va w h => ?_) (fun K hK => ?_)
      · go_simp
      go_simp
      refine hK _ ?_
      clear hK K
      refine moveF_read (v := .int .i64 u2) (by decide) (by decide) (by decide) rfl ⟨0, false, fun _ => undef, undef, feD_start⟩ (fun kk f vs va w h => ?_) (fun K hK => ?_)
      · go_simp
      go_simp
      refine hK _ ?_
      clear hK K
      refine moveF_read (v := .int .i64 e2) (by decide) (by decide) (by decide) rfl ⟨0, false, fun _ => undef, undef, feD_start⟩ (fun kk f vs va w h => ?_) (fun K hK => ?_)
      · go_simp
      go_simp
      refine hK _ ?_
      clear hK K
      refine moveF_free (fun v => ∃ g, v = .pointer (some ⟨g, 0, none⟩)) rfl (by decide) rfl (by decide) (by decide) (by decide) rfl ⟨_, 0, rfl⟩ (fun kk vs va w h => ?_) (fun v hv K hK => ?_)
      · go_simp
        exact ⟨⟨_, rfl⟩, feD_free h⟩
      obtain ⟨g17, rfl⟩ := hv
      go_simp
      refine hK _ ?_
      clear hK K
      refine moveF_at 3 (fun _ => True) rfl (by decide) rfl (by decide) (by decide) rfl (by decide) (tel_dd rfl) (by first | kernel_rfl | decide | simp [Region.binds]) (fun d hd => by first | (cases hd; done) | (cases hd; decide)) rfl ⟨undef, trivial⟩ (fun f vs va w h hf hvs hva => ?_) (fun v hv K hK => ?_)
      · have hft : f = true := hf (by first | rfl | kernel_rfl | decide)
        obtain ⟨g', cf, hva', hge, kk, hsw, _⟩ := h.2.2.1 hft
        have h8 : va = .pointer (some ⟨g17, 0, none⟩) := hva (by simp [Op.operands, Call.operands])
        have h44 : vs 2 = .agg (cellsOf 45 YF) := hvs 2 89 rfl (by simp [Op.operands, Call.operands])
        have eg : g' = g17 := by
          have e1 : Value.pointer (some ⟨g', 0, none⟩) = Value.pointer (some ⟨g17, 0, none⟩) := hva'.symm.trans h8
          injection e1 with e1
          injection e1 with e1
          injection e1 with e1
        subst eg
        exact lands_overw 32 (.tmp 17) (.tmp 89) rfl rfl rfl kk sw_size (fun i _ => hone2 i) (fun w' k' hg => ⟨trivial, feD_4 h hft hva' hge kk k' hg rfl h44⟩)
      clear hv
      go_simp
      refine hK _ ?_
      clear hK K
      refine moveF_read (v := .slice T2 tn2 tc2) (by decide) (by decide) (by decide) rfl ⟨0, false, fun _ => undef, undef, feD_start⟩ (fun kk f vs va w h => ?_) (fun K hK => ?_)
      · go_simp
      go_simp
      refine hK _ ?_
      clear hK K
      refine moveF_read (v := .int .i64 u2) (by decide) (by decide) (by decide) rfl ⟨0, false, fun _ => undef, undef, feD_start⟩ (fun kk f vs va w h => ?_) (fun K hK => ?_)
      · go_simp
      go_simp
      refine hK _ ?_
      clear hK K
      refine moveF_read (v := .int .i64 e2) (by decide) (by decide) (by decide) rfl ⟨0, false, fun _ => undef, undef, feD_start⟩ (fun kk f vs va w h => ?_) (fun K hK => ?_)
      · go_simp
      go_simp
      refine hK _ ?_
      clear hK K
      clear hread
      show ∀ L w', _ → _ → _
      intro L w6 hL hC
      have hE := chainF_end hC hL (by decide) (by decide)
      clear hL hC
      obtain ⟨hbD, hfa, hcell, _⟩ := hE
      replace hfa : FeedAt w5.drew w6 X (n - k) (l.drop k) o2 (.tuple #[.agg (cellsOf 45 YF), .slice T2 tn2 tc2, .int .i64 u2, .int .i64 e2]) := hfa (by decide)
      obtain ⟨g', cf, eP, hgeg17, k6', _, hcf⟩ := hcell rfl
      have ecf : cellsOf 45 YF = cellsOf 45 cf := by
        have h : Value.agg (cellsOf 45 YF) = .agg (cellsOf 45 cf) := hcf (by decide)
        injection h
      have eg : g17 = g' := by
        have h : Value.pointer (some ⟨g17, 0, none⟩) = .pointer (some ⟨g', 0, none⟩) := eP
        injection h with h
        injection h with h
        injection h with h
      subst eg
      have k6 : Arr w6 g17 32 45 YF := arr_is k6' ecf
      clear hcell eP hcf k6' ecf
      have hb56 : Below w5.heap.size w5 w6 := Below.undrew hbD
      have hb46 : Below w4.heap.size w4 w6 := hb45.trans (hb56.mono hb45.size)
      have hsz5 : w5.drew.heap.size = w5.heap.size := rfl
      have hsz4 : w4.drew.heap.size = w4.heap.size := rfl
      have hg817 : g17 ≠ g8 := by have := Blk.lt kx; omega
      have kx6 := Arr.below kx hb56 (Blk.lt kx)
      have hown1 : w6.ownsRow w4.heap.size 5 1 (.slice T tn tc) tn (u8s s1.told) := own_below HX.out.1.told hb56
      have htn1 := HX.out.1.tn_
      have hu1 : u' = k := by rw [HX.out.1.used_]; unfold usedN; rw [HX.out.2.2.1]; rfl
      obtain ⟨told2, un, hrd2, htn2, hu2, hun, hl2, hby2, hm2⟩ := hfa.tells HX.out.1.val HX.out.2.2.2.2.1 (by rw [List.length_drop, HI.out.2.1])
      have hr1 := HX.out.2.2.2.2.2.2
      subst hu1 hu2
      have e6 : IntKind.i64.wrap ((u' : Int) + (un : Int)) = ((u' + un : Nat) : Int) := by rw [IntWalk.i64_in _ (by omega)]; omega
      have htl : tn + tn2 ≤ 1000000 := by omega
      have HM2 := Lib.hid (And.intro hm2 (And.intro htn1 (And.intro htn2 (And.intro hby2 hone2))))
      clear hm2 htn1 htn2 hby2 hfa HC2 HCUT hov hl2
      go_upto_region 11 with fail
      have hrd2d := hrd2.drew
      have hown1d := own_drew hown1
      refine wp_region_moves w6.drew (fun i => if i = 3 then some (fun v => ∃ A' c', v = .slice A' (tn + tn2) c') else if i = 8 then some (fun _ => True) else none)
        (chainC 174 [3, 8] [some 96, none] [] (apD w6.drew w4.heap.size g8 T tn tc (tn + tn2) (s1.told ++ told2) YF)) (by kernel_rfl) (by kernel_rfl) (by kernel_rfl) (by kernel_rfl) (chain_new rfl rfl) ?_
      have hread : ∀ kk vs w, apD w6.drew w4.heap.size g8 T tn tc (tn + tn2) (s1.told ++ told2) YF kk vs w → Arr w g17 32 45 YF := fun kk vs w h => h.arr hown1d (Arr.drew k6) (.inl hg817)
      refine move_read (v := .agg (cellsOf 45 YF)) (by decide) (by decide) rfl (.inl rfl) (fun kk vs w h => ?_) (fun K hK => ?_)
      · exact run_row 32 (.tmp 17) rfl rfl (hread _ _ _ h) Try.underlying32 rfl sw_size
      go_simp
      refine hK _ ?_
      clear hK K
      refine move_read (v := .slice T tn tc) (by decide) (by decide) rfl (.inl rfl) (fun kk vs w h => ?_) (fun K hK => ?_)
      · go_simp
      go_simp
      refine hK _ ?_
      clear hK K
      refine move_read (v := .slice T2 tn2 tc2) (by decide) (by decide) rfl (.inl rfl) (fun kk vs w h => ?_) (fun K hK => ?_)
      · go_simp
      go_simp
      refine hK _ ?_
      clear hK K
      refine move_at 0 (fun v => ∃ A' c', v = .slice A' (tn + tn2) c') rfl (by decide) rfl (by decide) rfl (tel_dd rfl) (by first | kernel_rfl | decide | simp [Region.binds]) (fun d hd => by first | (cases hd; done) | (cases hd; decide)) rfl ⟨_, none, 0, rfl⟩ (fun vs w h hvs => ?_) (fun v hv K hK => ?_)
      · obtain rfl : w = w6.drew := h
        exact lands_grow selem_u8 (.tmp 94) (.tmp 95) rfl rfl hown1d hb46.size rfl hrd2d (by rw [u8s_length, HM2.out.2.2.1, Nat.mul_one]) (u8s_one _) (tn + tn2) rfl (u8s (s1.told ++ told2)) (u8s_append _ _).symm (by omega) (by omega) (fun A' c' w' own hg => ⟨⟨A', c', rfl⟩, A', c', rfl, own, hg⟩)
      obtain ⟨A3, c3, rfl⟩ := hv
      go_simp
      refine hK _ ?_
      clear hK K
      refine move_read (v := .int .i64 (u' : Int)) (by decide) (by decide) rfl (.inl rfl) (fun kk vs w h => ?_) (fun K hK => ?_)
      · go_simp
      go_simp
      refine hK _ ?_
      clear hK K
      refine move_read (v := .int .i64 (un : Int)) (by decide) (by decide) rfl (.inl rfl) (fun kk vs w h => ?_) (fun K hK => ?_)
      · go_simp
      go_simp
      refine hK _ ?_
      clear hK K
      refine move_read (v := .int .i64 ((u' + un : Nat) : Int)) (by decide) (by decide) rfl (.inl rfl) (fun kk vs w h => ?_) (fun K hK => ?_)
      · go_simp
      go_simp
      refine hK _ ?_
      clear hK K
      refine move_read (v := .int .i64 e2) (by decide) (by decide) rfl (.inl rfl) (fun kk vs w h => ?_) (fun K hK => ?_)
      · go_simp
      go_simp
      refine hK _ ?_
      clear hK K
      refine move_at 1 (fun _ => True) rfl (by decide) rfl (by decide) rfl (tel_dd rfl) (by first | kernel_rfl | decide | simp [Region.binds]) (fun d hd => by first | (cases hd; done) | (cases hd; decide)) rfl ⟨undef, trivial⟩ (fun vs w h hvs => ?_) (fun v hv K hK => ?_)
      · have kb := h.arr hown1d (Arr.drew kx6) (.inr (by omega))
        obtain ⟨A5, c5, hv1, own, hg⟩ := h
        have h93 : vs 0 = vs 0 := rfl
        exact lands_overw 32 (.tmp 13) (.tmp 93) rfl rfl rfl kb sw_size (fun i _ => HM2.out.2.2.2.2 i) (fun w' k' hg' => ⟨trivial, A5, c5, w, hv1, own, hg, k', hg'⟩)
      clear hv
      go_simp
      refine hK _ ?_
      clear hK K
      refine move_read (v := .slice A3 (tn + tn2) c3) (by decide) (by decide) rfl (.inl rfl) (fun kk vs w h => ?_) (fun K hK => ?_)
      · go_simp
      go_simp
      refine hK _ ?_
      clear hK K
      refine move_read (v := .int .i64 ((u' + un : Nat) : Int)) (by decide) (by decide) rfl (.inl rfl) (fun kk vs w h => ?_) (fun K hK => ?_)
      · go_simp
      go_simp
      refine hK _ ?_
      clear hK K
      refine move_read (v := .int .i64 e2) (by decide) (by decide) rfl (.inl rfl) (fun kk vs w h => ?_) (fun K hK => ?_)
      · go_simp
      go_simp
      refine hK _ ?_
      clear hK K
      clear hread
      show ∀ L w', _ → _ → _
      intro L w7 hL hC
      have hE := chain_end hC hL (by decide)
      clear hL hC
      obtain ⟨A4, c4, wc, hv4, own7, hg7, k7, hg7'⟩ := hE
      have hv4 : Value.slice A3 (tn + tn2) c3 = .slice A4 (tn + tn2) c4 := hv4
      injection hv4 with hv4 _ hv4'
      subst hv4 hv4'
      have kc8 : Arr wc g8 32 45 XG := Blk.grown (Arr.drew kx6) hg7 (own_blk_ne hown1d (Arr.drew kx6) (by decide)).symm
      have hrd7 : Rd w7 A3 (u8s (s1.told ++ told2)) := own_rd (own_only own7 kc8 (by decide) hg7')
      have hb4c : Below w4.heap.size w4 wc := (hb46.drew).trans (below_own hown1d hg7 hb46.size)
      have hb47 : Below w4.heap.size w4 w7 := Below.then_only hb4c hg7' hb4c.size (by omega)
      have hb7 := hb4.trans (hb47.mono hb4.size)
      have hI7 := HR.out.2.2.below hb47
      clear own7 hg7 hg7' kc8 hb4c hown1d hrd2d k6 kx6 hb56 hb46 hown1 hrd2 hb45 hb5 hI5 kx hbD
      cases o2 with
      | error E =>
        obtain ⟨h1, h2, h3⟩ := HM2.out.1
        subst h1 h2 h3
        have hR : tellR room (l.take u' ++ l.drop u') 0 = .error E := HX.out.2.2.2.1
        rw [hR] at hI7
        obtain rfl : ff = E := hI7.1
        have q0 : ((ff : Int) == 0) = false := by rw [beq_eq_false_iff_ne]; have := hI7.2.1; omega
        have q10 : ((ff : Int) != 10) = true := by rw [bne_iff_ne]; have := hI7.2.2; omega
        have q0' : ¬ ((ff : Int) = 0) := by have := hI7.2.1; omega
        clear hI7 hR HR HX
        go_wp2_with fail
        go_ret
        exact ⟨rfl, hb7⟩
      | ok s2 =>
        obtain ⟨h1, h2, h3, Y, hYF, hYo, hYm⟩ := HM2.out.1
        subst h1 h3
        have hR : tellR room (l.take u' ++ l.drop u') 0 = .ok (mvS (s1.a / 8) s1.told s2) := HX.out.2.2.2.1
        rw [hR] at hI7
        have k7' : Arr w7 g8 32 45 Y.F := arr_is k7 hYF.symm
        have hov : w7.cell? ⟨g8, 44, none⟩ = some (.bool s2.over) := (Arr.cell k7' 44 (by omega)).trans (congrArg some (by show Value.bool Y.over = _; rw [hYo]))
        have hmd : w7.cell? ⟨g8, 1, none⟩ = some (.int .i64 ((s1.told ++ s2.told).length : Int)) := (Arr.cell k7' 1 (by omega)).trans (congrArg some (by show Value.int .i64 Y.made = _; rw [hYm, HX.out.1.made.2, List.length_append]; simp [newV]))
        have hby : ∀ x ∈ s1.told ++ s2.told, x < 256 := fun x hx => (List.mem_append.1 hx).elim (HX.out.2.1.byte x) (HM2.out.2.2.2.1 x)
        have htt : tn + tn2 = (s1.told ++ s2.told).length := by rw [List.length_append, HM2.out.2.1, HM2.out.2.2.1]
        have hcx := conv_row w7 hrd7 hby htt c3
        cases ho2 : s2.over with
        | true =>
          rw [ho2] at hov
          obtain ⟨h4, h5, h6, hrdA⟩ := hI7.1 ho2
          have hcy := conv_row w7 hrdA hby h4 cc
          have hrun : runS room (([] ++ l.take u') ++ l.drop u') s1 = .ok (mvS (s1.a / 8) s1.told s2) := by
            have h1 := runS_app (room := room) (b := l.take u') (l.drop u') s00 (s00_ok _)
            rw [HR.out.1] at h1
            exact h1.symm.trans hR
          have hus := used_mv (lA := []) (a := l.take u') (b := l.drop u') (nA := 0) (n := u') (m := n - u') (room := room) (s1 := s1) (s2 := s2) rfl HI.out.2.2.2 HX.out.2.2.1 HX.out.2.1.ok (HX.out.2.1.stop.resolve_left (by rw [HX.out.2.2.1]; simp)) hrun
          have hun2 : u' + un = (nx + 7) / 8 := by
            rw [h5, h2, HX.out.1.lA_.2]
            show u' + usedN (leftB ([] ++ l.take u') s1).length (n - u') s2 = _
            rw [← hus]
            unfold usedN
            rw [show (mvS (s1.a / 8) s1.told s2).over = true from ho2]
            rfl
          have hv3 : u' + un ≤ 300 := Nat.le_trans (Nat.add_le_add_left hun u') (by rw [Nat.add_sub_cancel' hk]; exact hn)
          have hnx := tel_le hun2 hv3
          have hq := tel_div hun2
          have hq2 := tel_wrap hun2 (Nat.le_trans hnx (by decide))
          have h4' : wn = (s1.told ++ s2.told).length := h4
          have HS : (mvS (s1.a / 8) s1.told s2).told = s1.told ++ s2.told := rfl
          rw [h4', HS] at hcy
          clear h4
          subst h4' h6
          clear HS
          rw [htt] at hcx
          have hns : (s1.told ++ s2.told).length ≤ 1000000 := htt ▸ htl
          rw [htt]
          obtain ⟨v, hv⟩ : ∃ v, u' + un = v := ⟨_, rfl⟩
          rw [hv] at hq hq2 hv3
          rw [tel_sum hv]
          generalize (s1.told ++ s2.told).length = tl at *
          generalize str (s1.told ++ s2.told) = st at *
          clear hI7 hR HR HX HM2 hrun hus hun2 h2 h5 hYF hYo hYm k7 k7' hrd7 hrdA hby e6
          go_wp2_with fail
          go_ret
          exact ⟨rfl, hb7⟩
        | false =>
          rw [ho2] at hov
          have h6 : ff = 10 := hI7.2 ho2
          subst h6
          have hun2 : u' + un = n := by
            rw [h2]
            unfold usedN
            rw [ho2]
            show u' + (n - u') = n
            omega
          have HPR := Lib.hid fun wx (hb : Below w7.heap.size w7 wx) => prefix_any B n c l room wx (HI.out.1.below (hb7.trans (hb.mono hb7.size))) HI.out.2.2.1 HI.out.2.1 (by omega) (by omega)
          have HRL := Lib.hid (show tellR room l 0 = .ok (mvS (s1.a / 8) s1.told s2) by rw [← hR, List.take_append_drop])
          clear hcx
          obtain ⟨tm, htm⟩ : ∃ m, tn + tn2 = m := ⟨_, rfl⟩
          rw [htm] at htt
          have HBY := Lib.hid (And.intro hby (And.intro hrd7 htt))
          rw [htm]
          clear htt htm htl
          rw [tel_sum hun2]
          clear hI7 hR HR HX HM2 h2 hYF hYo hYm k7 hrd7 hby e6 hmd hun
          go_upto_region 17 with (go_at_call 14; refine (HPR.out _ (Below.refl _ _)).mono ?_; rintro e w8 hpre; obtain ⟨A8, c8, rfl, h8, hrd8⟩ := hpre.told HRL.out)
          have hb8 := hb7.trans (h8.mono hb7.size)
          have hov8 := (h8.cell (p := ⟨g8, 44, none⟩) (Blk.lt k7')).trans hov
          have hcx := conv_row w8 (HBY.out.2.1.below h8) HBY.out.1 HBY.out.2.2 c3
          have hcy := conv_row w8 hrd8 HBY.out.1 rfl c8
          clear HPR hrd8 hov h8 k7'
          have HS : (mvS (s1.a / 8) s1.told s2).told = s1.told ++ s2.told := rfl
          rw [HS] at hcy
          rw [HS]
          generalize (s1.told ++ s2.told).length = tl at *
          generalize str (s1.told ++ s2.told) = st at *
          go_wp2_with fail
          go_ret
          exact ⟨rfl, hb8⟩
theorem law_stells (B : Option Addr) (l : List Nat) (c : Nat) (most cut : Int) (w : World) (hl : InBs w B l) (hcap : l.length ≤ c) (_ : -9223372036854775808 ≤ most) (_ : most ≤ 9223372036854775807) (_ : -9223372036854775808 ≤ cut) (_ : cut ≤ 9223372036854775807) :
    Calls Try.prog 6 #[.slice B l.length c, .int .i64 most, .int .i64 cut] w fun e w' => e = .returned (.bool true) ∧ Below w.heap.size w w' := by
  obtain ⟨hbs, hB, hm⟩ := hl
  unfold maxLen at hm
  by_cases hw : 300 < l.length ∨ 4000 < most ∨ cut < 0 ∨ (l.length : Int) < cut
  · exact tells_out B l.length c most cut w (by omega) hw
  · obtain ⟨k, rfl⟩ : ∃ k : Nat, cut = (k : Int) := ⟨cut.toNat, by omega⟩
    by_cases h0 : most < 0
    · exact tells_low B l.length c k most w (by omega) (by omega) h0
    · obtain ⟨room, rfl⟩ : ∃ r : Nat, most = (r : Int) := ⟨most.toNat, by omega⟩
      exact tells_in B l l.length c k room w (Bs.rd hbs hB) rfl hbs.2 hcap (by omega) (by omega) (by omega)
end Go.Proofs.Ytahboomghjdjhaa
