/-
  Walks: swell.Feed, as far as the run.
-/
import Derived.Test.YtahboomghjdjhaaGreatG33
import Derived.Test.YtahboomghjdjhaaGreatG36
import Derived.Test.YtahboomghjdjhaaGreatG42
import Derived.Test.YtahboomghjdjhaaGreatGSwY
namespace Go.Proofs.YtahboomghjdjhaaGreat
open Go.RowKit

theorem ck_600 {s : Wv} (h : ckS s = true) : s.nA ≤ 600 := by
  unfold ckS ckI at h
  simp only [Bool.and_eq_true, decide_eq_true_eq] at h
  exact h.2.1.1
/-- The worlds of the region that makes the stream. -/
def mkD (w2 : World) (SL : Obj) (T : Nat) (all : List Nat) (G : Value → Nat → Value) (k : Nat) (vs : Nat → Value) (w : World) : Prop := match k with
  | 0 => w = w2
  | 1 => w = w2.alloc SL ∧ vs 0 = .slice (some ⟨w2.heap.size, 0, none⟩) 2 2
  | 2 => ∃ A' d', vs 1 = .slice A' T d' ∧ Builds (w2.alloc SL) w 5 1 A' T d' (u8s all)
  | 3 => ∃ A' d', vs 1 = .slice A' T d' ∧ Builds (w2.alloc SL) w 5 1 A' T d' (u8s all) ∧ vs 2 = .agg (cellsOf 48 (G (vs 1)))
  | _ => ∃ A' d' w3, vs 1 = .slice A' T d' ∧ Builds (w2.alloc SL) w3 5 1 A' T d' (u8s all) ∧ w = w3.alloc (.cells (cellsOf 48 (G (vs 1))) 53) ∧ vs 3 = .pointer (some ⟨w3.heap.size, 0, none⟩)
theorem mkD_below {w2 : World} {SL : Obj} {T : Nat} {all : List Nat} {G : Value → Nat → Value} : ∀ {k : Nat} {vs : Nat → Value} {w : World}, mkD w2 SL T all G k vs w → Below w2.heap.size w2 w
  | 0, _, _, h => by cases h; exact Below.refl _ _
  | 1, _, _, h => by
    obtain ⟨rfl, _⟩ := h
    exact (Below.refl _ _).alloc (Nat.le_refl _) _
  | 2, _, _, h => by
    obtain ⟨A', d', _, hB⟩ := h
    exact ((Below.refl _ _).alloc (Nat.le_refl _) SL).trans (hB.1.mono (by simp))
  | 3, _, _, h => by
    obtain ⟨A', d', _, hB, _⟩ := h
    exact ((Below.refl _ _).alloc (Nat.le_refl _) SL).trans (hB.1.mono (by simp))
  | k + 4, _, _, h => by
    obtain ⟨A', d', w3, _, hB, rfl, _⟩ := h
    have hb : Below w2.heap.size w2 w3 := ((Below.refl _ _).alloc (Nat.le_refl _) SL).trans (hB.1.mono (by simp))
    exact hb.alloc hb.size _
theorem dd_of {ds : List (Option Tmp)} {k : Nat} {dst : Option Tmp} (h : ((List.range ds.length).all fun m => m == k || dst.isNone || ds.getD m none != dst) = true) : ∀ m d, m ≠ k → dst = some d → ds.getD m none ≠ some d := by
  intro m d hm hd he
  subst hd
  rcases Nat.lt_or_ge m ds.length with hlt | hge
  · have := List.all_eq_true.1 h m (List.mem_range.2 hlt)
    rw [he] at this
    simp [hm] at this
  · rw [List.getD_eq_getElem?_getD, List.getElem?_eq_none hge] at he; cases he
/-- What Feed answers. -/
def FeedRes (w w' : World) (s : Wv) (k : Option Bk) (most made a n : Nat) (b : List Nat) (r : Ending) : Prop := match runS (most - made) (s.lA ++ b) ⟨a, k, false, s.lw, []⟩ with
  | .error e => FeedNo w w' e r
  | .ok s1 => FedOk w w' most made s.nA n (s.lA ++ b) s1 r
theorem FeedRes.no {w : World} {s : Wv} {k : Option Bk} {most made a n : Nat} {b : List Nat} {e : Nat} (h : runS (most - made) (s.lA ++ b) ⟨a, k, false, s.lw, []⟩ = .error e) : ∀ w' r, FeedNo w w' e r → FeedRes w w' s k most made a n b r := fun w' r h' => by unfold FeedRes; rw [h]; exact h'
theorem FeedRes.yes {w : World} {s : Wv} {k : Option Bk} {most made a n : Nat} {b : List Nat} {s1 : Ss} (h : runS (most - made) (s.lA ++ b) ⟨a, k, false, s.lw, []⟩ = .ok s1) : ∀ w' r, FedOk w w' most made s.nA n (s.lA ++ b) s1 r → FeedRes w w' s k most made a n b r := fun w' r h' => by unfold FeedRes; rw [h]; exact h'
/-- The worlds where the bytes that are left are kept. -/
def enD (w7 : World) (gx n : Nat) (xs : List Value) (av : Value) (k : Nat) (vs : Nat → Value) (w : World) : Prop := match k with
  | 0 => w = w7
  | 1 => ∃ I ci, vs 0 = .slice I n ci ∧ w.ownsRow w7.heap.size 5 1 (.slice I n ci) n xs ∧ Below w7.heap.size w7 w
  | 2 => ∃ I ci wc, vs 0 = .slice I n ci ∧ wc.ownsRow w7.heap.size 5 1 (.slice I n ci) n xs ∧ Below w7.heap.size w7 wc ∧ w = wc.setCell ⟨gx, 2, none⟩ (.slice I n ci)
  | _ => ∃ I ci wc, vs 0 = .slice I n ci ∧ wc.ownsRow w7.heap.size 5 1 (.slice I n ci) n xs ∧ Below w7.heap.size w7 wc ∧ w = (wc.setCell ⟨gx, 2, none⟩ (.slice I n ci)).setCell ⟨gx, 3, none⟩ av
theorem enD_arr {w7 : World} {gx n m : Nat} {t : TypeId} {xs : List Value} {av : Value} {f : Nat → Value} (h7 : Arr w7 gx t m f) : ∀ {k : Nat} {vs : Nat → Value} {w : World}, enD w7 gx n xs av k vs w → ∃ f', Arr w gx t m f' ∧ f' 45 = f 45 ∧ f' 46 = f 46
  | 0, _, _, h => by cases h; exact ⟨f, h7, rfl, rfl⟩
  | 1, _, _, h => by obtain ⟨I, ci, _, _, hb⟩ := h; exact ⟨f, Arr.below h7 hb (Blk.lt h7), rfl, rfl⟩
  | 2, _, _, h => by obtain ⟨I, ci, wc, _, _, hb, rfl⟩ := h; exact ⟨_, Arr.set (Arr.below h7 hb (Blk.lt h7)) 2 _, rfl, rfl⟩
  | k + 3, _, _, h => by obtain ⟨I, ci, wc, _, _, hb, rfl⟩ := h; exact ⟨_, Arr.set (Arr.set (Arr.below h7 hb (Blk.lt h7)) 2 _) 3 _, rfl, rfl⟩
/-- The worlds where what is answered is written. -/
def outD (w9 : World) (gn : Nat) (F : Nat → Value) (k : Nat) (_ : Nat → Value) (w : World) : Prop := match k with
  | 0 => w = w9
  | _ => Arr w gn 32 45 F ∧ w9.grownBy w (some gn)
theorem outD_arr {w9 : World} {gn gx m : Nat} {t : TypeId} {F f : Nat → Value} (h9 : Arr w9 gx t m f) (hne : gx ≠ gn) : ∀ {k : Nat} {vs : Nat → Value} {w : World}, outD w9 gn F k vs w → Arr w gx t m f
  | 0, _, _, h => by cases h; exact h9
  | k + 1, _, _, h => Blk.only h9 h.2 hne
/-- The worlds where a block's symbols are kept. -/
def tyD (w8 : World) (gx m1 m2 : Nat) (x1 x2 : List Int) (k : Nat) (vs : Nat → Value) (w : World) : Prop := match k with
  | 0 => w = w8
  | 1 => ∃ A c, vs 0 = .slice A m1 c ∧ w.ownsRow w8.heap.size 3 1 (.slice A m1 c) m1 (ints x1) ∧ Below w8.heap.size w8 w
  | 2 => ∃ A c B d, vs 0 = .slice A m1 c ∧ vs 1 = .slice B m2 d ∧ w.ownsRow w8.heap.size 3 1 (.slice A m1 c) m1 (ints x1) ∧ w.ownsRow w8.heap.size 3 1 (.slice B m2 d) m2 (ints x2) ∧ Below w8.heap.size w8 w
  | 3 => ∃ A c B d wc, vs 0 = .slice A m1 c ∧ vs 1 = .slice B m2 d ∧ wc.ownsRow w8.heap.size 3 1 (.slice A m1 c) m1 (ints x1) ∧ wc.ownsRow w8.heap.size 3 1 (.slice B m2 d) m2 (ints x2) ∧ Below w8.heap.size w8 wc ∧ w = wc.setCell ⟨gx, 23, none⟩ (.slice A m1 c)
  | _ => ∃ A c B d wc, vs 0 = .slice A m1 c ∧ vs 1 = .slice B m2 d ∧ wc.ownsRow w8.heap.size 3 1 (.slice A m1 c) m1 (ints x1) ∧ wc.ownsRow w8.heap.size 3 1 (.slice B m2 d) m2 (ints x2) ∧ Below w8.heap.size w8 wc ∧ w = (wc.setCell ⟨gx, 23, none⟩ (.slice A m1 c)).setCell ⟨gx, 40, none⟩ (.slice B m2 d)
theorem tyD_arr {w8 : World} {gx m m1 m2 : Nat} {t : TypeId} {x1 x2 : List Int} {f : Nat → Value} (h8 : Arr w8 gx t m f) : ∀ {k : Nat} {vs : Nat → Value} {w : World}, k ≤ 1 → tyD w8 gx m1 m2 x1 x2 k vs w → Arr w gx t m f
  | 0, _, _, _, h => by cases h; exact h8
  | 1, _, _, _, h => by obtain ⟨A, c, _, _, hb⟩ := h; exact Arr.below h8 hb (Blk.lt h8)
  | k + 2, _, _, hk, _ => absurd hk (by omega)
theorem u8s_dropL (l : List Nat) (k : Nat) : u8s (l.drop k) = (u8s l).drop k := by unfold u8s; rw [List.map_drop]
/-- Two rows of bytes behind one another. -/
theorem concat_two (w : World) (A B : Option Addr) (n1 c1 n2 c2 : Nat) (l1 l2 : List Nat) (h1 : Rd w A (u8s l1)) (h2 : Rd w B (u8s l2)) (e1 : n1 = l1.length) (e2 : n2 = l2.length) (T : Nat) (hT : (l1 ++ l2).length = T) (hm : T ≤ 100000) :
    Calls Tryz.prog 16 #[.slice (some ⟨w.heap.size, 0, none⟩) 2 2] (w.alloc (.cells #[.slice A n1 c1, .slice B n2 c2] 22)) fun e w' => ∃ A' d, e = .returned (.slice A' T d) ∧ Builds (w.alloc (.cells #[.slice A n1 c1, .slice B n2 c2] 22)) w' 5 1 A' T d (u8s (l1 ++ l2)) := by
  have hp : piecesL [⟨A, c1, l1⟩, ⟨B, c2, l2⟩] = l1 ++ l2 := by simp [piecesL]
  have h := concat_all (some ⟨w.heap.size, 0, none⟩) 2 2 [⟨A, c1, l1⟩, ⟨B, c2, l2⟩] (w.alloc (.cells #[.slice A n1 c1, .slice B n2 c2] 22)) (Rd.new w _ _ _ (by rw [e1, e2]; rfl)) rfl (by
    intro p hp
    rcases List.mem_cons.1 hp with rfl | hp
    · exact h1.alloc _
    · rw [List.mem_singleton.1 hp]; exact h2.alloc _) (by simp) (by rw [hp, hT]; exact hm)
  rw [hp, hT] at h
  exact h
set_option maxRecDepth 100000 in
set_option maxHeartbeats 16000000 in
theorem feed_any (s : Wv) (w : World) (hs : s.ok w) (B : Option Addr) (n c : Nat) (b : List Nat) (hB : Rd w B (u8s b)) (hn : n = b.length) (hm : n ≤ 90000) (hck : ckS s = true) (hov : s.over = false) (k : Option Bk) (hk : CkIs s k) (most made a : Nat) (hmo : s.most = (most : Int)) (hma : s.made = (made : Int)) (hat : s.at0 = (a : Int)) (hx : ∀ x ∈ b, x < 256) :
    Calls Tryz.prog 8 #[.agg (cellsOf 45 s.F), .slice B n c] w fun r w' => FeedRes w w' s k most made a n b r := by
  have HC := Lib.hid fun wx (h : Below w.heap.size w wx) => (hck ▸ scheck_any s wx (hs.below h) : Calls Tryz.prog 11 #[.agg (cellsOf 45 s.F)] wx fun r w' => CkdRes wx w' true r)
  have h44 : s.F 44 = .bool false := by show Value.bool s.over = _; rw [hov]
  have h2 : s.F 2 = .slice s.A s.nA s.cA := rfl
  have h3 : s.F 3 = .int .i64 s.at0 := rfl
  have h43 : s.F 43 = .slice s.Bw s.nw s.cw := rfl
  have hn2 : ¬ ((131072 : Int) < (n : Int)) := by omega
  have HA6 := Lib.hid (ck_600 hck)
  have HS := Lib.hid hs
  have HCK := Lib.hid (And.intro hk (And.intro hmo (And.intro hma hat)))
  have HST := Lib.hid (start_cells hk hov most made a hmo hma hat)
  have HOV := Lib.hid hov
  clear hk hmo hma hat
  have HN := Lib.hid hn
  clear hs hck hov hn
  generalize hF : s.F = F at *
  have HF := Lib.hid (And.intro hF (And.intro h44 (And.intro h2 (And.intro h3 h43))))
  clear hF h44 h2 h3 h43
  have hb0 : Below w.heap.size w ((w.alloc (.cells (cellsOf 45 F) 32)).alloc (.cells (cellsOf 45 swZ) 32)) := ((Below.refl _ _).alloc (Nat.le_refl _) _).alloc (by simp) _
  have k0 : Arr ((w.alloc (.cells (cellsOf 45 F) 32)).alloc (.cells (cellsOf 45 swZ) 32)) w.heap.size 32 45 F := Arr.alloc (Blk.new _ _ _) _
  have k1 : Arr ((w.alloc (.cells (cellsOf 45 F) 32)).alloc (.cells (cellsOf 45 swZ) 32)) (w.heap.size + 1) 32 45 swZ := Blk.new' _ _ _ _ (by simp)
  go_enter Tryz.func8, Tryz.ntmps8
  go_upto_region 1 with (fail)
  change Code.wp _ _ _ _ ((w.alloc (.cells (cellsOf 45 F) 32)).alloc (.cells (cellsOf 45 swZ) 32))
  generalize (w.alloc (.cells (cellsOf 45 F) 32)).alloc (.cells (cellsOf 45 swZ) 32) = w0 at *
  obtain ⟨gn, hgn⟩ : ∃ g, w.heap.size + 1 = g := ⟨_, rfl⟩
  obtain ⟨gs, hgs⟩ : ∃ g, w.heap.size = g := ⟨_, rfl⟩
  have hge : w.heap.size ≤ gn := by omega
  have hgsn : gs ≠ gn := by omega
  rw [hgn] at k1
  rw [hgn]
  rw [hgs] at k0
  rw [hgs]
  have HG := Lib.hid (And.intro hgn hgs)
  clear hgn hgs
  go_upto_region 8 with (first
    | (refine load_arr rfl 32 (.tmp 2) rfl rfl k0 Tryz.underlying32 rfl sw_size ?_)
    | (go_at_call 11; refine (HC.out _ hb0).mono ?_; rintro e w2 ⟨rfl, h2⟩; have k2 := Arr.below k0 h2 (Blk.lt k0); have kn2 := Arr.below k1 h2 (Blk.lt k1); have hb2 := hb0.trans (h2.mono hb0.size); have c44 : w2.cell? ⟨gs, 44, none⟩ = some (.bool false) := (Arr.cell k2 44 (by omega)).trans (congrArg some HF.out.2.1)))
  have hb2' : Below w.heap.size w w2 := hb2
  obtain ⟨T, hT⟩ : ∃ T, (s.lA ++ b).length = T := ⟨_, rfl⟩
  have hs2 := HS.out.below hb2'
  have hA600 : s.nA ≤ 600 := HA6.out
  have HCc := Lib.hid (concat_two w2.drew s.A B s.nA s.cA n c s.lA b (hs2.rA.drew) ((hB.below hb2').drew) hs2.lenA HN.out T hT (by rw [← hT, List.length_append, ← HN.out, ← hs2.lenA]; omega))
  have HT := Lib.hid hT
  clear hT hs2
  refine wp_region_moves w2.drew (fun i => if i = 4 then some (fun u => u = .slice (some ⟨w2.drew.heap.size, 0, none⟩) 2 2) else if i = 5 then some (fun u => ∃ A' d', u = .slice A' T d') else if i = 8 then some (fun u => ∃ A' d', u = .agg (cellsOf 48 (mkG F s.at0 (.slice A' T d')))) else if i = 9 then some (fun u => ∃ g, u = .pointer (some ⟨g, 0, none⟩)) else none)
    (chainC 141 [4, 5, 8, 9] [some 28, some 29, some 32, some 33] [] (mkD w2.drew (.cells #[.slice s.A s.nA s.cA, .slice B n c] 22) T (s.lA ++ b) (mkG F s.at0))) (by kernel_rfl) (by kernel_rfl) (by kernel_rfl) (by kernel_rfl) (chain_new rfl rfl) ?_
  have hread : ∀ k vs w, mkD w2.drew (.cells #[.slice s.A s.nA s.cA, .slice B n c] 22) T (s.lA ++ b) (mkG F s.at0) k vs w → Arr w gs 32 45 F := fun k vs w h => Arr.below (Arr.drew k2) (mkD_below h) (Blk.lt (Arr.drew k2))
  refine move_read (v := .agg (cellsOf 45 F)) (by decide) (by decide) rfl (.inl rfl) (fun k vs w h => run_row 32 (.tmp 2) rfl rfl (hread k vs w h) Tryz.underlying32 rfl sw_size) (fun K hK => ?_)
  go_simp
  refine hK _ ?_
  clear hK K
  refine move_read (v := .pointer (some ⟨gs, 2, none⟩)) (by decide) (by decide) rfl (.inl rfl) (fun k vs w h => ?_) (fun K hK => ?_)
  · go_simp
  go_simp
  refine hK _ ?_
  clear hK K
  refine move_read (v := .slice s.A s.nA s.cA) (by decide) (by decide) rfl (.inl rfl) (fun k vs w h => ?_) (fun K hK => ?_)
  · have cs : w.cell? ⟨gs, 2, none⟩ = some (.slice s.A s.nA s.cA) := (Arr.cell (hread k vs w h) 2 (by omega)).trans (congrArg some HF.out.2.2.1)
    clear h
    go_simp
  go_simp
  refine hK _ ?_
  clear hK K
  refine move_read (v := .slice B n c) (by decide) (by decide) rfl (.inl rfl) (fun k vs w h => ?_) (fun K hK => ?_)
  · go_simp
  go_simp
  refine hK _ ?_
  clear hK K
  refine move_at 0 (fun u => u = .slice (some ⟨w2.drew.heap.size, 0, none⟩) 2 2) rfl (by decide) rfl (by decide) rfl (dd_of rfl) rfl (fun d hd => by cases hd; decide) rfl ⟨_, rfl⟩ (fun vs w h hvs => ?_) (fun v hv K hK => ?_)
  · obtain rfl : w = w2.drew := h
    go_simp
    exact ⟨rfl, rfl, rfl⟩
  subst hv
  go_simp
  refine hK _ ?_
  clear hK K
  refine move_at 1 (fun u => ∃ A' d', u = .slice A' T d') rfl (by decide) rfl (by decide) rfl (dd_of rfl) (by first | kernel_rfl | decide | simp [Region.binds]) (fun d hd => by cases hd; decide) rfl ⟨_, none, 0, rfl⟩ (fun vs w h hvs => ?_) (fun v hv K hK => ?_)
  · obtain ⟨rfl, hv0⟩ := h
    go_simp
    refine HCc.out.mono ?_
    rintro e w' ⟨A', d', rfl, hbd⟩
    exact ⟨_, rfl, ⟨A', d', rfl⟩, A', d', rfl, hbd⟩
  obtain ⟨A', d', rfl⟩ := hv
  go_simp
  refine hK _ ?_
  clear hK K
  refine move_read (v := .pointer (some ⟨gs, 3, none⟩)) (by decide) (by decide) rfl (.inl rfl) (fun k vs w h => ?_) (fun K hK => ?_)
  · go_simp
  go_simp
  refine hK _ ?_
  clear hK K
  refine move_read (v := .int .i64 s.at0) (by decide) (by decide) rfl (.inl rfl) (fun k vs w h => ?_) (fun K hK => ?_)
  · have cs : w.cell? ⟨gs, 3, none⟩ = some (.int .i64 s.at0) := (Arr.cell (hread k vs w h) 3 (by omega)).trans (congrArg some HF.out.2.2.2.1)
    clear h
    go_simp
  go_simp
  refine hK _ ?_
  clear hK K
  refine move_at 2 (fun u => ∃ A' d', u = .agg (cellsOf 48 (mkG F s.at0 (.slice A' T d')))) rfl (by decide) rfl (by decide) rfl (dd_of rfl) (by first | kernel_rfl | decide | simp [Region.binds]) (fun d hd => by cases hd; decide) rfl ⟨_, none, 0, rfl⟩ (fun vs w h hvs => ?_) (fun v hv K hK => ?_)
  · obtain ⟨A2, d2, hv1, hbd⟩ := h
    have h29 : vs 1 = .slice A' T d' := hvs 1 29 rfl (by simp [Op.operands])
    rw [run_built 53 _ rfl (cells := cellsOf 48 (mkG F s.at0 (.slice A' T d'))) (by kernel_rfl)]
    exact ⟨⟨A', d', rfl⟩, A2, d2, hv1, hbd, by show _ = Value.agg (cellsOf 48 (mkG F s.at0 (vs 1))); rw [h29]; rfl⟩
  obtain ⟨A3, d3, rfl⟩ := hv
  generalize hG3 : cellsOf 48 (mkG F s.at0 (.slice A3 T d3)) = CS at *
  go_simp
  refine hK _ ?_
  clear hK K
  refine move_at 3 (fun u => ∃ g, u = .pointer (some ⟨g, 0, none⟩)) rfl (by decide) rfl (by decide) rfl (dd_of rfl) (by first | kernel_rfl | decide | simp [Region.binds]) (fun d hd => by cases hd; decide) rfl ⟨_, 0, rfl⟩ (fun vs w h hvs => ?_) (fun v hv K hK => ?_)
  · obtain ⟨A2, d2, hv1, hbd, hv2⟩ := h
    have h32 : vs 2 = .agg CS := hvs 2 32 rfl (by simp [Op.operands])
    have hcs : CS = cellsOf 48 (mkG F s.at0 (vs 1)) := by rw [h32] at hv2; injection hv2
    clear hvs
    go_simp
    exact ⟨⟨_, rfl⟩, A2, d2, w, hv1, hbd, by show _ = w.alloc (.cells (cellsOf 48 (mkG F s.at0 (vs 1))) _); rw [hv1], rfl⟩
  obtain ⟨gx, rfl⟩ := hv
  go_simp
  refine hK _ ?_
  clear hK K
  refine move_read (v := .pointer (some ⟨gx, 0, none⟩)) (by decide) (by decide) rfl (.inl rfl) (fun k vs w h => ?_) (fun K hK => ?_)
  · go_simp
  go_simp
  refine hK _ ?_
  clear hK K hread
  show ∀ L w', _ → _ → _
  intro L w4 hL hC
  obtain ⟨A4, d4, w3, hv1, hbd, hw4, hv3⟩ := chain_end hC hL (by decide)
  clear hL hC
  have hgx : gx = w3.heap.size := by
    have : Value.pointer (some ⟨gx, 0, none⟩) = Value.pointer (some ⟨w3.heap.size, 0, none⟩) := hv3
    injection this with this
    injection this with this
    injection this with this
  rw [hv1] at hw4
  clear hv1 hv3
  have hb3' := mkD_below (w2 := w2.drew) (SL := .cells #[.slice s.A s.nA s.cA, .slice B n c] 22) (G := mkG F s.at0) (k := 2) (vs := fun _ => .slice A4 T d4) (w := w3) ⟨A4, d4, rfl, hbd⟩
  have hb3 : Below w2.heap.size w2 w3 := ⟨hb3'.os, hb3'.tape, hb3'.output, hb3'.size, hb3'.block⟩
  have k4 : Arr w4 gx 53 48 (mkG F s.at0 (.slice A4 T d4)) := by rw [hw4, hgx]; exact Blk.new _ _ _
  have hb4 : Below w3.heap.size w3 w4 := by rw [hw4]; exact (Below.refl _ _).alloc (Nat.le_refl _) _
  have ks4 : Arr w4 gs 32 45 F := Arr.below (Arr.below k2 hb3 (Blk.lt k2)) hb4 (Nat.lt_of_lt_of_le (Blk.lt k2) hb3.size)
  have c43 : w4.cell? ⟨gs, 43, none⟩ = some (.slice s.Bw s.nw s.cw) := (Arr.cell ks4 43 (by omega)).trans (congrArg some HF.out.2.2.2.2)
  have hs4 := (HS.out.below hb2).below hb3 |>.below hb4
  have HCl := Lib.hid (bclone_any s.Bw s.nw s.cw s.lw w4 hs4.rw_ hs4.lenw hs4.maxw)
  have HX := Lib.hid (And.intro hgx hw4)
  have HBD := Lib.hid hbd
  clear hgx hw4 hbd HCc hs4
  go_upto_region 10 with (first
    | (go_at_call 17; refine HCl.out.mono ?_; rintro e w5 ⟨A5, c5, rfl, o5, hb5⟩; have k5 := Arr.below k4 hb5 (Blk.lt k4); have d43 : w5.cell? ⟨gx, 43, none⟩ = some (F 43) := Arr.cell k5 43 (by omega); have f43 := Arr.free k5 43))
  have hs3 := (HS.out.below hb2).below hb3
  obtain ⟨hkk, hmo, hma, hat⟩ := HCK.out
  have hge3 : w3.heap.size ≤ gx := Nat.le_of_eq HX.out.1.symm
  have hSB := feed_strB hs3 hkk HOV.out hmo hma hat hge3 (by rw [HF.out.1]; exact k5) hb4 hb5 o5
  have hSP := feed_strP hs3 hkk hmo hma hat hge3 (Builds.rd HBD.out) HT.out (Builds.cap HBD.out) (by have := HN.out; have := HT.out; rw [List.length_append, ← HS.out.lenA] at this; omega) hx (.slice s.A s.nA s.cA) s.at0
  have HSR := Lib.hid (srun_any w3 _ gx (most - made) (s.lA ++ b) s.lw _ _ _ hSB hSP)
  have HSP := Lib.hid hSP
  have hW3 : Below w.heap.size w w3 := hb2'.trans (hb3.mono hb2'.size)
  have kn3 := Arr.below (Arr.below k1 h2 (Blk.lt k1)) hb3 (Nat.lt_of_lt_of_le (Blk.lt k1) h2.size)
  have hgx3 : w.heap.size ≤ gx := Nat.le_trans hW3.size hge3
  have hgn3 : gn < w3.heap.size := Blk.lt kn3
  have ks3 := Arr.below k2 hb3 (Blk.lt k2)
  have hsx : gs ≠ gx := by have := Blk.lt ks3; omega
  clear k4 ks4 c43 d43 f43 k5 hb5 o5 hSP hs3 hSB k0 k1 k2 kn2 hb0 c44
  generalize w5.setCell ⟨gx, 43, none⟩ (.slice A5 s.nw c5) = w6 at *
  cases hR : runS (most - made) (s.lA ++ b) ⟨a, k, false, s.lw, []⟩ with
  | error e =>
    have HE := Lib.hid (FeedRes.no (w := w) (n := n) hR)
    have hne := run_err0 _ (hkk.start hat HS.out.lenA b) e hR
    have e0 : ((e : Int) != 0) = true := by rw [bne_iff_ne]; omega
    unfold SRun at HSR
    rw [hR] at HSR
    clear hR hkk hmo hma hat hne
    go_wp2_with (first
      | (go_at_call 18; refine HSR.out.mono ?_; rintro e7 w7 ⟨rfl, hb7⟩; have kn7 := Arr.below kn3 hb7 hgn3)
      | (refine load_arr rfl 32 (.tmp 4) rfl rfl kn7 Tryz.underlying32 rfl sw_size ?_)
      | (refine store_over rfl 32 (.tmp 4) (.tmp 47) (f := swZ) rfl rfl rfl kn7 sw_size (fun i _ => swH_one _ _ _ _ _ _ _ _ _ _ _ _ _ i) ?_; intro w8 k8 g8))
    refine bodyPost_ret (results_four Tryz.results8 _ _ gn 32 _ _ _ _ _ rfl rfl rfl rfl k8 Tryz.underlying32 rfl (by rw [cellsOf_size]; exact sw_size)) rfl ?_
    exact HE.out _ _ ⟨Below.then_only (hW3.trans (hb7.mono hW3.size)) g8 (Nat.le_trans hW3.size hb7.size) hge, rfl⟩
  | ok s1 =>
    have HE := Lib.hid (FeedRes.yes (w := w) (n := n) hR)
    have HP := Lib.hid (feed_p HS.out hkk hmo hma hat hR)
    unfold SRun at HSR
    rw [hR] at HSR
    have hat1 : s1.a ≤ 8 * T := by rw [← HT.out]; exact HP.out.ok.at_
    have hT9 : T ≤ 100000 := HSP.out.max
    have hTd : T ≤ d4 := HSP.out.cap
    obtain ⟨lo, hlo⟩ : ∃ lo, s1.a / 8 = lo := ⟨_, rfl⟩
    have hlT : lo ≤ T := by omega
    obtain ⟨A8, hcut, hrd8⟩ := run_from (P := Tryz.prog) (t := 22) Tryz.underlying22 size_u8w (A := A4) (n := T) (c := d4) (i := (lo : Int)) lo rfl hlT hTd
    have HCUT := Lib.hid hcut
    have HLO := Lib.hid (show IntKind.i64.wrap ((s1.a : Int) / 8) = (lo : Int) ∧ Int.tmod (s1.a : Int) 8 = (s1.a : Int) % 8 from ⟨by rw [IntKind.wrap_i64]; omega, Int.tmod_eq_emod_of_nonneg (by omega)⟩)
    have HA8 := Lib.hid (hrd8 w3 _ (by rw [u8s_length]; exact HT.out) (Builds.rd HBD.out))
    have HL := Lib.hid (And.intro hlo (And.intro hat1 hTd))
    clear hR hkk hmo hma hat hlo hat1 hcut hrd8 hTd
    go_upto_region 13 with (go_at_call 18; refine HSR.out.mono ?_; rintro e7 w7 ⟨rfl, v1, hB7⟩)
    obtain ⟨qq, hqq⟩ : ∃ q : Sc, (⟨most, made, .slice s.A s.nA s.cA, s.at0, A4, T, d4⟩ : Sc) = q := ⟨_, rfl⟩
    rw [hqq] at hB7
    have HQQ := Lib.hid hqq
    have k7 := hB7.arr
    have HB7 := Lib.hid hB7
    have d45 : svF qq s1 v1 45 = .slice A4 T d4 := by rw [← hqq]; rfl
    have d46 : svF qq s1 v1 46 = .int .i64 (s1.a : Int) := rfl
    have kn7 := Arr.below kn3 hB7.only hgn3
    have hB3w7 := hB7.only
    have hb7 := hW3.trans (hB7.only.mono hW3.size)
    have HD := Lib.hid (And.intro d45 d46)
    have HCL2 := Lib.hid (bclone_any A8 (T - lo) (d4 - lo) ((s.lA ++ b).drop lo) w7.drew (by rw [u8s_dropL]; exact (HA8.out.below hB7.only).drew) (by rw [List.length_drop, HT.out]) (by omega))
    clear hB7 hqq d45 d46
    refine wp_region_moves w7.drew (fun i => if i = 12 then some (fun u => ∃ A' c', u = .slice A' (T - lo) c') else if i = 21 then some (fun _ => True) else if i = 25 then some (fun _ => True) else none)
      (chainC 141 [12, 21, 25] [some 61, none, none] [] (enD w7.drew gx (T - lo) (u8s ((s.lA ++ b).drop lo)) (.int .i64 ((s1.a % 8 : Nat) : Int)))) (by kernel_rfl) (by kernel_rfl) (by kernel_rfl) (by kernel_rfl) (chain_new rfl rfl) ?_
    have hread : ∀ k vs w, enD w7.drew gx (T - lo) (u8s ((s.lA ++ b).drop lo)) (.int .i64 ((s1.a % 8 : Nat) : Int)) k vs w → w.cell? ⟨gx, 45, none⟩ = some (.slice A4 T d4) ∧ w.cell? ⟨gx, 46, none⟩ = some (.int .i64 (s1.a : Int)) := fun k vs w h => by
      obtain ⟨f', k', e1, e2⟩ := enD_arr (Arr.drew k7) h
      exact ⟨(Arr.cell k' 45 (by omega)).trans (congrArg some (e1.trans HD.out.1)), (Arr.cell k' 46 (by omega)).trans (congrArg some (e2.trans HD.out.2))⟩
    refine move_read (v := .pointer (some ⟨gx, 0, none⟩)) (by decide) (by decide) rfl (.inl rfl) (fun k vs w h => ?_) (fun K hK => ?_)
    · go_simp
    go_simp
    refine hK _ ?_
    clear hK K
    refine move_read (v := .pointer (some ⟨gx, 0, none⟩)) (by decide) (by decide) rfl (.inl rfl) (fun k vs w h => ?_) (fun K hK => ?_)
    · go_simp
    go_simp
    refine hK _ ?_
    clear hK K
    refine move_read (v := .pointer (some ⟨gx, 0, none⟩)) (by decide) (by decide) rfl (.inl rfl) (fun k vs w h => ?_) (fun K hK => ?_)
    · go_simp
    go_simp
    refine hK _ ?_
    clear hK K
    refine move_read (v := .pointer (some ⟨gx, 0, none⟩)) (by decide) (by decide) rfl (.inl rfl) (fun k vs w h => ?_) (fun K hK => ?_)
    · go_simp
    go_simp
    refine hK _ ?_
    clear hK K
    refine move_read (v := .pointer (some ⟨gx, 45, none⟩)) (by decide) (by decide) rfl (.inl rfl) (fun k vs w h => ?_) (fun K hK => ?_)
    · go_simp
    go_simp
    refine hK _ ?_
    clear hK K
    refine move_read (v := .slice A4 T d4) (by decide) (by decide) rfl (.inl rfl) (fun k vs w h => ?_) (fun K hK => ?_)
    · have cs := (hread k vs w h).1; clear h; go_simp
    go_simp
    refine hK _ ?_
    clear hK K
    refine move_read (v := .pointer (some ⟨gx, 0, none⟩)) (by decide) (by decide) rfl (.inl rfl) (fun k vs w h => ?_) (fun K hK => ?_)
    · go_simp
    go_simp
    refine hK _ ?_
    clear hK K
    refine move_read (v := .pointer (some ⟨gx, 0, none⟩)) (by decide) (by decide) rfl (.inl rfl) (fun k vs w h => ?_) (fun K hK => ?_)
    · go_simp
    go_simp
    refine hK _ ?_
    clear hK K
    refine move_read (v := .pointer (some ⟨gx, 46, none⟩)) (by decide) (by decide) rfl (.inl rfl) (fun k vs w h => ?_) (fun K hK => ?_)
    · go_simp
    go_simp
    refine hK _ ?_
    clear hK K
    refine move_read (v := .int .i64 (s1.a : Int)) (by decide) (by decide) rfl (.inl rfl) (fun k vs w h => ?_) (fun K hK => ?_)
    · have cs := (hread k vs w h).2; clear h; go_simp
    go_simp
    refine hK _ ?_
    clear hK K
    refine move_read (v := .int .i64 (lo : Int)) (by decide) (by decide) rfl (.inl rfl) (fun k vs w h => ?_) (fun K hK => ?_)
    · go_simp; exact HLO.out.1
    go_simp
    refine hK _ ?_
    clear hK K
    refine move_read (v := .slice A8 (T - lo) (d4 - lo)) (by decide) (by decide) rfl (.inl rfl) (fun k vs w h => ?_) (fun K hK => ?_)
    · exact run_fromO (.tmp 54) (.tmp 59) rfl Tryz.underlying22 rfl rfl (HCUT.out _)
    go_simp
    refine hK _ ?_
    clear hK K
    refine move_at 0 (fun u => ∃ A' c', u = .slice A' (T - lo) c') rfl (by decide) rfl (by decide) rfl (dd_of rfl) (by first | kernel_rfl | decide | simp [Region.binds]) (fun d hd => by first | (cases hd; done) | (cases hd; decide)) rfl ⟨_, none, 0, rfl⟩ (fun vs w h hvs => ?_) (fun v hv K hK => ?_)
    · obtain rfl : w = w7.drew := h
      go_simp
      refine HCL2.out.mono ?_
      rintro e w8 ⟨A', c', rfl, o8, hb8⟩
      exact ⟨_, rfl, ⟨A', c', rfl⟩, A', c', rfl, o8, hb8⟩
    obtain ⟨A', c', rfl⟩ := hv
    go_simp
    refine hK _ ?_
    clear hK K
    refine move_read (v := .pointer (some ⟨gx, 0, none⟩)) (by decide) (by decide) rfl (.inl rfl) (fun k vs w h => ?_) (fun K hK => ?_)
    · go_simp
    go_simp
    refine hK _ ?_
    clear hK K
    refine move_read (v := .pointer (some ⟨gx, 0, none⟩)) (by decide) (by decide) rfl (.inl rfl) (fun k vs w h => ?_) (fun K hK => ?_)
    · go_simp
    go_simp
    refine hK _ ?_
    clear hK K
    refine move_read (v := .pointer (some ⟨gx, 46, none⟩)) (by decide) (by decide) rfl (.inl rfl) (fun k vs w h => ?_) (fun K hK => ?_)
    · go_simp
    go_simp
    refine hK _ ?_
    clear hK K
    refine move_read (v := .int .i64 (s1.a : Int)) (by decide) (by decide) rfl (.inl rfl) (fun k vs w h => ?_) (fun K hK => ?_)
    · have cs := (hread k vs w h).2; clear h; go_simp
    go_simp
    refine hK _ ?_
    clear hK K
    refine move_read (v := .int .i64 ((s1.a % 8 : Nat) : Int)) (by decide) (by decide) rfl (.inl rfl) (fun k vs w h => ?_) (fun K hK => ?_)
    · go_simp; exact HLO.out.2
    go_simp
    refine hK _ ?_
    clear hK K
    refine move_read (v := .pointer (some ⟨gx, 0, none⟩)) (by decide) (by decide) rfl (.inl rfl) (fun k vs w h => ?_) (fun K hK => ?_)
    · go_simp
    go_simp
    refine hK _ ?_
    clear hK K
    refine move_read (v := .pointer (some ⟨gx, 0, none⟩)) (by decide) (by decide) rfl (.inl rfl) (fun k vs w h => ?_) (fun K hK => ?_)
    · go_simp
    go_simp
    refine hK _ ?_
    clear hK K
    refine move_read (v := .pointer (some ⟨gx, 2, none⟩)) (by decide) (by decide) rfl (.inl rfl) (fun k vs w h => ?_) (fun K hK => ?_)
    · go_simp
    go_simp
    refine hK _ ?_
    clear hK K
    refine move_at 1 (fun _ => True) rfl (by decide) rfl (by decide) rfl (dd_of rfl) (by first | kernel_rfl | decide | simp [Region.binds]) (fun d hd => by first | (cases hd; done) | (cases hd; decide)) rfl ⟨undef, trivial⟩ (fun vs w h hvs => ?_) (fun v hv K hK => ?_)
    · obtain ⟨I, ci, hv0, o8, hb8⟩ := h
      have h61 : vs 0 = .slice A' (T - lo) c' := hvs 0 61 rfl (by simp [Op.operands])
      have k8 := Arr.below k7 (Below.undrew hb8) (Blk.lt k7)
      have cs : w.cell? ⟨gx, 2, none⟩ = some (svF qq s1 v1 2) := Arr.cell k8 2 (by omega)
      have cf := Arr.free k8 2
      have e61 : Value.slice A' (T - lo) c' = .slice I (T - lo) ci := h61.symm.trans hv0
      injection e61 with e61 _ e62
      subst e61 e62
      clear hvs
      go_simp
      exact ⟨_, _, w, hv0, o8, hb8, rfl⟩
    clear hv
    go_simp
    refine hK _ ?_
    clear hK K
    refine move_read (v := .pointer (some ⟨gx, 0, none⟩)) (by decide) (by decide) rfl (.inl rfl) (fun k vs w h => ?_) (fun K hK => ?_)
    · go_simp
    go_simp
    refine hK _ ?_
    clear hK K
    refine move_read (v := .pointer (some ⟨gx, 0, none⟩)) (by decide) (by decide) rfl (.inl rfl) (fun k vs w h => ?_) (fun K hK => ?_)
    · go_simp
    go_simp
    refine hK _ ?_
    clear hK K
    refine move_read (v := .pointer (some ⟨gx, 3, none⟩)) (by decide) (by decide) rfl (.inl rfl) (fun k vs w h => ?_) (fun K hK => ?_)
    · go_simp
    go_simp
    refine hK _ ?_
    clear hK K
    refine move_at 2 (fun _ => True) rfl (by decide) rfl (by decide) rfl (dd_of rfl) (by first | kernel_rfl | decide | simp [Region.binds]) (fun d hd => by first | (cases hd; done) | (cases hd; decide)) rfl ⟨undef, trivial⟩ (fun vs w h hvs => ?_) (fun v hv K hK => ?_)
    · obtain ⟨I, ci, wc, hv0, o8, hb8, rfl⟩ := h
      have k8 := Arr.set (Arr.below k7 (Below.undrew hb8) (Blk.lt k7)) 2 (.slice I (T - lo) ci)
      have cs : (wc.setCell ⟨gx, 2, none⟩ (.slice I (T - lo) ci)).cell? ⟨gx, 3, none⟩ = some (svF qq s1 v1 3) := Arr.cell k8 3 (by omega)
      have cf := Arr.free k8 3
      clear hvs
      go_simp
      exact ⟨_, _, wc, hv0, o8, hb8, rfl⟩
    clear hv
    go_simp
    refine hK _ ?_
    clear hK K
    clear hread
    show ∀ L w', _ → _ → _
    intro L w8 hL hC
    obtain ⟨I, ci, wc, -, o8, hb8, hw8⟩ := chain_end hC hL (by decide)
    clear hL hC
    obtain ⟨gc8, k8, oI⟩ := en_at (b := s.lA ++ b) (lo := lo) k7 (qq := qq) (s1 := s1) (v1 := v1) o8 hb8 hw8
    have g78 : w7.grownBy w8 (some gx) := gc8
    have kn8 := Blk.only kn7 g78 (by omega)
    have ks8 : Arr w8 gs 32 45 F := Blk.only (Arr.below ks3 hB3w7 (Blk.lt ks3)) g78 hsx
    have hb8' : Below w.heap.size w w8 := Below.then_only hb7 g78 hb7.size hgx3
    have c44 : w8.cell? ⟨gx, 44, none⟩ = some (.bool s1.over) := Arr.cell k8 44 (by omega)
    have c41 : w8.cell? ⟨gx, 41, none⟩ = some (.bool s1.k.isSome) := Arr.cell k8 41 (by omega)
    have c46 : w8.cell? ⟨gx, 46, none⟩ = some (.int .i64 (s1.a : Int)) := Arr.cell k8 46 (by omega)
    have c2 : w8.cell? ⟨gx, 2, none⟩ = some _ := Arr.cell k8 2 (by omega)
    have c3 : w8.cell? ⟨gx, 3, none⟩ = some _ := Arr.cell k8 3 (by omega)
    have f2 := Arr.free k8 2
    have f3 := Arr.free k8 3
    have G78 := Lib.hid g78
    have OI := Lib.hid oI
    clear o8 hb8 hw8 gc8 oI g78 k7
    cases hov : s1.over with
    | true =>
      rw [hov] at c44
      have hkn : s1.k = none := HP.out.closed hov
      rw [hkn] at c41
      replace c41 : w8.cell? ⟨gx, 41, none⟩ = some (.bool false) := c41
      have HK := Lib.hid (And.intro hov hkn)
      clear hov hkn
      go_upto_region 17 with fail
      change Code.wp _ _ _ _ ((w8.setCell ⟨gx, 2, none⟩ (.slice none 0 0)).setCell ⟨gx, 3, none⟩ (.int .i64 0))
      obtain ⟨g89, k9⟩ := en_over k8
      have kn9 := Blk.only kn8 g89 (by omega)
      have c2s : ((w8.setCell ⟨gx, 2, none⟩ (.slice none 0 0)).setCell ⟨gx, 3, none⟩ (.int .i64 0)).cell? ⟨gs, 2, none⟩ = some (.slice s.A s.nA s.cA) := (Arr.cell (Blk.only ks8 g89 hsx) 2 (by omega)).trans (congrArg some HF.out.2.2.1)
      replace c41 := (Arr.cell k9 41 (by omega)).trans (congrArg some (show stH _ _ _ _ _ _ _ _ _ _ _ 41 = Value.bool false from congrArg Value.bool (by rw [HK.out.2]; rfl)))
      replace c46 := Arr.cell k9 46 (by omega)
      generalize (w8.setCell ⟨gx, 2, none⟩ (.slice none 0 0)).setCell ⟨gx, 3, none⟩ (.int .i64 0) = w9 at *
      replace c46 : w9.cell? ⟨gx, 46, none⟩ = some (.int .i64 (s1.a : Int)) := c46
      replace c41 : w9.cell? ⟨gx, 41, none⟩ = some (.bool false) := c41
      clear c2 c3 f2 f3 k8 kn8 ks8
      go_region
      go_upto_region 20 with fail
      obtain ⟨used, hused⟩ : ∃ u : Int, ((usedN s.nA n s1 : Nat) : Int) = u := ⟨_, rfl⟩
      rw [show (if 0 < wrap64 (wrap64 ((wrap64 ((s1.a : Int) + 7)).tdiv 8) - (s.nA : Int)) then wrap64 (wrap64 ((wrap64 ((s1.a : Int) + 7)).tdiv 8) - (s.nA : Int)) else 0) = used from by rw [← hused]; exact used_over HK.out.1 HL.out.2.1 hT9 HA6.out]
      have hqq := HQQ.out
      subst hqq
      obtain ⟨FF, hFF⟩ : ∃ f, (fedV most made (s.lA ++ b) s1 v1 none 0 0).F = f := ⟨_, rfl⟩
      obtain ⟨f9, k9, hef, h47⟩ : ∃ f, Arr w9 gx 53 48 f ∧ (∀ i, i < 45 → f i = FF i) ∧ f 47 = .slice v1.D v1.nt v1.ct := ⟨_, k9, fun i hi => by rw [← hFF]; exact fed_cells_over HK.out.1 i hi, rfl⟩
      have hone : ∀ i, i < 45 → (FF i).oneCell' = true := fun i _ => by rw [← hFF]; exact swH_one _ _ _ _ _ _ _ _ _ _ _ _ _ i
      have hxn : gx ≠ gn := by omega
      have HFF := Lib.hid hFF
      have HU := Lib.hid hused
      clear hFF hused c41 c46 c2s
      have k9d : Arr (w9.drew.drew) gx 53 48 f9 := k9
      have kn9d : Arr (w9.drew.drew) gn 32 45 swZ := kn9
      refine wp_region_moves (w9.drew.drew) (fun i => if i = 9 then some (fun _ => True) else none)
        (chainC 141 [9] [none] [] (outD (w9.drew.drew) gn FF)) (by kernel_rfl) (by kernel_rfl) (by kernel_rfl) (by kernel_rfl) (chain_new rfl rfl) ?_
      have hread : ∀ k vs w, outD (w9.drew.drew) gn FF k vs w → Arr w gx 53 48 f9 := fun k vs w h => outD_arr k9d hxn h
      refine move_read (v := .pointer (some ⟨gx, 0, none⟩)) (by decide) (by decide) rfl (.inl rfl) (fun k vs w h => ?_) (fun K hK => ?_)
      · go_simp
      go_simp
      refine hK _ ?_
      clear hK K
      refine move_read (v := .pointer (some ⟨gx, 0, none⟩)) (by decide) (by decide) rfl (.inl rfl) (fun k vs w h => ?_) (fun K hK => ?_)
      · go_simp
      go_simp
      refine hK _ ?_
      clear hK K
      refine move_read (v := .pointer (some ⟨gx, 0, none⟩)) (by decide) (by decide) rfl (.inl rfl) (fun k vs w h => ?_) (fun K hK => ?_)
      · go_simp
      go_simp
      refine hK _ ?_
      clear hK K
      refine move_read (v := .agg (cellsOf 45 FF)) (by decide) (by decide) rfl (.inl rfl) (fun k vs w h => ?_) (fun K hK => ?_)
      · exact run_mid 32 (.tmp 134) rfl rfl (hread k vs w h) 45 (by omega) Tryz.underlying32 rfl sw_size FF (fun i hi => (congrArg f9 (Nat.zero_add i)).trans (hef i hi))
      go_simp
      refine hK _ ?_
      clear hK K
      refine move_read (v := .pointer (some ⟨gx, 0, none⟩)) (by decide) (by decide) rfl (.inl rfl) (fun k vs w h => ?_) (fun K hK => ?_)
      · go_simp
      go_simp
      refine hK _ ?_
      clear hK K
      refine move_read (v := .pointer (some ⟨gx, 0, none⟩)) (by decide) (by decide) rfl (.inl rfl) (fun k vs w h => ?_) (fun K hK => ?_)
      · go_simp
      go_simp
      refine hK _ ?_
      clear hK K
      refine move_read (v := .pointer (some ⟨gx, 47, none⟩)) (by decide) (by decide) rfl (.inl rfl) (fun k vs w h => ?_) (fun K hK => ?_)
      · go_simp
      go_simp
      refine hK _ ?_
      clear hK K
      refine move_read (v := .slice v1.D v1.nt v1.ct) (by decide) (by decide) rfl (.inl rfl) (fun k vs w h => ?_) (fun K hK => ?_)
      · have cs := (Arr.cell (hread k vs w h) 47 (by omega)).trans (congrArg some h47); clear h; go_simp
      go_simp
      refine hK _ ?_
      clear hK K
      refine move_read (v := .int .i64 used) (by decide) (by decide) rfl (.inl rfl) (fun k vs w h => ?_) (fun K hK => ?_)
      · go_simp
      go_simp
      refine hK _ ?_
      clear hK K
      refine move_at 0 (fun _ => True) rfl (by decide) rfl (by decide) rfl (dd_of rfl) (by first | kernel_rfl | decide | simp [Region.binds]) (fun d hd => by first | (cases hd; done) | (cases hd; decide)) rfl ⟨undef, trivial⟩ (fun vs w h hvs => ?_) (fun v hv K hK => ?_)
      · obtain rfl : w = (w9.drew.drew) := h
        exact lands_overw 32 (.tmp 4) (.tmp 135) rfl rfl rfl kn9d sw_size hone (fun w2 r2 r3 => ⟨trivial, r2, r3⟩)
      clear hv
      go_simp
      refine hK _ ?_
      clear hK K
      refine move_read (v := .slice v1.D v1.nt v1.ct) (by decide) (by decide) rfl (.inl rfl) (fun k vs w h => ?_) (fun K hK => ?_)
      · go_simp
      go_simp
      refine hK _ ?_
      clear hK K
      refine move_read (v := .int .i64 used) (by decide) (by decide) rfl (.inl rfl) (fun k vs w h => ?_) (fun K hK => ?_)
      · go_simp
      go_simp
      refine hK _ ?_
      clear hK K
      refine move_read (v := .int .i64 0) (by decide) (by decide) rfl (.inl rfl) (fun k vs w h => ?_) (fun K hK => ?_)
      · go_simp
      go_simp
      refine hK _ ?_
      clear hK K
      clear hread
      show ∀ L w', _ → _ → _
      intro L w10 hL hC
      obtain ⟨k10, g10⟩ := chain_end hC hL (by decide)
      clear hL hC

      go_wp2_with fail
      refine bodyPost_ret (results_four Tryz.results8 _ _ gn 32 _ _ _ _ _ rfl rfl rfl rfl k10 Tryz.underlying32 rfl (by rw [cellsOf_size]; exact sw_size)) rfl ?_
      have hlb : leftB (s.lA ++ b) s1 = [] := by unfold leftB; rw [HK.out.1]; rfl
      have hll : (leftB (s.lA ++ b) s1).length = 0 := by rw [hlb]; rfl
      have hz := HB7.out.tr0 HK.out.2
      have hmem := fed_done (I := none) (ci := 0) (x1 := []) (x2 := []) (C1 := v1.C1) (C2 := v1.C2) hW3 HB7.out (only_trans G78.out g89) kn9 (grown_undrew (grown_undrew g10)) hge hgx3 HP.out HSP.out.byte (by rw [hll, hlb]; exact World.ownsRow_nil _ _ _ _) (by rw [HK.out.2]; rfl) (by rw [HK.out.2]; rfl) (hz.1.1) (hz.2.1) hz.1.2.1 hz.2.2.1 (.inl ⟨rfl, hz.1.1⟩) (.inl ⟨rfl, hz.2.1⟩)
      refine HE.out _ _ ⟨v1, none, 0, ?_, hmem⟩
      rw [hll, HFF.out, HU.out]
      rfl
    | false =>
      rw [hov] at c44
      have HO := Lib.hid hov
      clear hov
      cases hk1 : s1.k with
      | none =>
        rw [hk1] at c41
        replace c41 : w8.cell? ⟨gx, 41, none⟩ = some (.bool false) := c41
        have HK := Lib.hid (And.intro HO.out hk1)
        clear hk1 c2 c3 f2 f3
        go_upto_region 20 with fail
        obtain ⟨used, hused⟩ : ∃ u : Int, ((usedN s.nA n s1 : Nat) : Int) = u := ⟨_, rfl⟩
        rw [show ((n : Nat) : Int) = used from by rw [← hused]; unfold usedN; rw [HO.out]; rfl]
        have hqq := HQQ.out
        subst hqq
        obtain ⟨FF, hFF⟩ : ∃ f, (fedV most made (s.lA ++ b) s1 v1 I (T - lo) ci).F = f := ⟨_, rfl⟩
        obtain ⟨f9, k9, hef, h47⟩ : ∃ f, Arr w8 gx 53 48 f ∧ (∀ i, i < 45 → f i = FF i) ∧ f 47 = .slice v1.D v1.nt v1.ct := ⟨_, k8, fun i hi => by rw [← hFF, ← left_at HO.out]; exact fed_cells i hi, rfl⟩
        have hone : ∀ i, i < 45 → (FF i).oneCell' = true := fun i _ => by rw [← hFF]; exact swH_one _ _ _ _ _ _ _ _ _ _ _ _ _ i
        have hxn : gx ≠ gn := by omega
        have HFF := Lib.hid hFF
        have HU := Lib.hid hused
        have kn9 := kn8
        clear hFF hused c41 c46 k8 kn8
        have k9d : Arr (w8.drew) gx 53 48 f9 := k9
        have kn9d : Arr (w8.drew) gn 32 45 swZ := kn9
        refine wp_region_moves (w8.drew) (fun i => if i = 9 then some (fun _ => True) else none)
          (chainC 141 [9] [none] [] (outD (w8.drew) gn FF)) (by kernel_rfl) (by kernel_rfl) (by kernel_rfl) (by kernel_rfl) (chain_new rfl rfl) ?_
        have hread : ∀ k vs w, outD (w8.drew) gn FF k vs w → Arr w gx 53 48 f9 := fun k vs w h => outD_arr k9d hxn h
        refine move_read (v := .pointer (some ⟨gx, 0, none⟩)) (by decide) (by decide) rfl (.inl rfl) (fun k vs w h => ?_) (fun K hK => ?_)
        · go_simp
        go_simp
        refine hK _ ?_
        clear hK K
        refine move_read (v := .pointer (some ⟨gx, 0, none⟩)) (by decide) (by decide) rfl (.inl rfl) (fun k vs w h => ?_) (fun K hK => ?_)
        · go_simp
        go_simp
        refine hK _ ?_
        clear hK K
        refine move_read (v := .pointer (some ⟨gx, 0, none⟩)) (by decide) (by decide) rfl (.inl rfl) (fun k vs w h => ?_) (fun K hK => ?_)
        · go_simp
        go_simp
        refine hK _ ?_
        clear hK K
        refine move_read (v := .agg (cellsOf 45 FF)) (by decide) (by decide) rfl (.inl rfl) (fun k vs w h => ?_) (fun K hK => ?_)
        · exact run_mid 32 (.tmp 134) rfl rfl (hread k vs w h) 45 (by omega) Tryz.underlying32 rfl sw_size FF (fun i hi => (congrArg f9 (Nat.zero_add i)).trans (hef i hi))
        go_simp
        refine hK _ ?_
        clear hK K
        refine move_read (v := .pointer (some ⟨gx, 0, none⟩)) (by decide) (by decide) rfl (.inl rfl) (fun k vs w h => ?_) (fun K hK => ?_)
        · go_simp
        go_simp
        refine hK _ ?_
        clear hK K
        refine move_read (v := .pointer (some ⟨gx, 0, none⟩)) (by decide) (by decide) rfl (.inl rfl) (fun k vs w h => ?_) (fun K hK => ?_)
        · go_simp
        go_simp
        refine hK _ ?_
        clear hK K
        refine move_read (v := .pointer (some ⟨gx, 47, none⟩)) (by decide) (by decide) rfl (.inl rfl) (fun k vs w h => ?_) (fun K hK => ?_)
        · go_simp
        go_simp
        refine hK _ ?_
        clear hK K
        refine move_read (v := .slice v1.D v1.nt v1.ct) (by decide) (by decide) rfl (.inl rfl) (fun k vs w h => ?_) (fun K hK => ?_)
        · have cs := (Arr.cell (hread k vs w h) 47 (by omega)).trans (congrArg some h47); clear h; go_simp
        go_simp
        refine hK _ ?_
        clear hK K
        refine move_read (v := .int .i64 used) (by decide) (by decide) rfl (.inl rfl) (fun k vs w h => ?_) (fun K hK => ?_)
        · go_simp
        go_simp
        refine hK _ ?_
        clear hK K
        refine move_at 0 (fun _ => True) rfl (by decide) rfl (by decide) rfl (dd_of rfl) (by first | kernel_rfl | decide | simp [Region.binds]) (fun d hd => by first | (cases hd; done) | (cases hd; decide)) rfl ⟨undef, trivial⟩ (fun vs w h hvs => ?_) (fun v hv K hK => ?_)
        · obtain rfl : w = (w8.drew) := h
          exact lands_overw 32 (.tmp 4) (.tmp 135) rfl rfl rfl kn9d sw_size hone (fun w2 r2 r3 => ⟨trivial, r2, r3⟩)
        clear hv
        go_simp
        refine hK _ ?_
        clear hK K
        refine move_read (v := .slice v1.D v1.nt v1.ct) (by decide) (by decide) rfl (.inl rfl) (fun k vs w h => ?_) (fun K hK => ?_)
        · go_simp
        go_simp
        refine hK _ ?_
        clear hK K
        refine move_read (v := .int .i64 used) (by decide) (by decide) rfl (.inl rfl) (fun k vs w h => ?_) (fun K hK => ?_)
        · go_simp
        go_simp
        refine hK _ ?_
        clear hK K
        refine move_read (v := .int .i64 0) (by decide) (by decide) rfl (.inl rfl) (fun k vs w h => ?_) (fun K hK => ?_)
        · go_simp
        go_simp
        refine hK _ ?_
        clear hK K
        clear hread
        show ∀ L w', _ → _ → _
        intro L w10 hL hC
        obtain ⟨k10, g10⟩ := chain_end hC hL (by decide)
        clear hL hC
        go_wp2_with fail
        refine bodyPost_ret (results_four Tryz.results8 _ _ gn 32 _ _ _ _ _ rfl rfl rfl rfl k10 Tryz.underlying32 rfl (by rw [cellsOf_size]; exact sw_size)) rfl ?_
        have hlb : leftB (s.lA ++ b) s1 = (s.lA ++ b).drop lo := by unfold leftB; rw [HO.out, HL.out.1]; rfl
        have hll : (leftB (s.lA ++ b) s1).length = T - lo := by rw [hlb, List.length_drop, HT.out]
        have hz := HB7.out.tr0 HK.out.2
        have hmem := fed_done (I := I) (ci := ci) (x1 := []) (x2 := []) (C1 := v1.C1) (C2 := v1.C2) hW3 HB7.out (G78.out) kn9 (grown_undrew g10) hge hgx3 HP.out HSP.out.byte (by rw [hll, hlb]; exact OI.out) (by rw [HK.out.2]; rfl) (by rw [HK.out.2]; rfl) (hz.1.1) (hz.2.1) hz.1.2.1 hz.2.2.1 (.inl ⟨rfl, hz.1.1⟩) (.inl ⟨rfl, hz.2.1⟩)
        refine HE.out _ _ ⟨v1, I, ci, ?_, hmem⟩
        rw [hll, HFF.out, HU.out]
        rfl
      | some k1 =>
        rw [hk1] at c41
        replace c41 : w8.cell? ⟨gx, 41, none⟩ = some (.bool true) := c41
        obtain ⟨ht1, ht2⟩ := HB7.out.tr k1 hk1
        have hl3 := trX_len (HP.out.ok.blk k1 hk1)
        have hb38 := HB7.out.only' hge3 G78.out
        have HK := Lib.hid hk1
        obtain ⟨x1, hx1⟩ : ∃ x, trX k1 k1.lo = x := ⟨_, rfl⟩
        obtain ⟨x2, hx2⟩ : ∃ x, trX k1 k1.fa = x := ⟨_, rfl⟩
        rw [hx1] at ht1 hl3
        rw [hx2] at ht2 hl3
        have hr1 : Rd w8 v1.C1 (ints x1) := (ht1.more HB7.out.arr G78.out).rd hb38
        have hr2 : Rd w8 v1.C2 (ints x2) := (ht2.more HB7.out.arr G78.out).rd hb38
        have HCa := Lib.hid (iclone_any v1.C1 v1.m1 v1.d1 x1 w8.drew hr1.drew ht1.1 (by have := ht1.1; omega))
        have HCb := Lib.hid fun wx (h : Below w8.drew.heap.size w8.drew wx) => iclone_any v1.C2 v1.m2 v1.d2 x2 wx (hr2.drew.below h) ht2.1 (by have := ht2.1; omega)
        have HTT := Lib.hid (And.intro ht1.1 ht2.1)
        have HXX := Lib.hid (And.intro hx1 hx2)
        have d23 : svF qq s1 v1 23 = .slice v1.C1 v1.m1 v1.d1 := (svF_bk hk1 19 (by omega)).trans rfl
        have d40 : svF qq s1 v1 40 = .slice v1.C2 v1.m2 v1.d2 := (svF_bk hk1 36 (by omega)).trans rfl
        have HD2 := Lib.hid (And.intro d23 d40)
        clear hk1 c2 c3 f2 f3 ht1 ht2 hl3 hx1 hx2 hr1 hr2 d23 d40
        go_upto_region 19 with fail
        refine wp_region_moves w8.drew (fun i => if i = 9 then some (fun u => ∃ A c, u = .slice A v1.m1 c) else if i = 17 then some (fun u => ∃ B d, u = .slice B v1.m2 d) else if i = 23 then some (fun _ => True) else if i = 29 then some (fun _ => True) else none)
          (chainC 141 [9, 17, 23, 29] [some 113, some 121, none, none] [(0, 8), (1, 16)] (tyD w8.drew gx v1.m1 v1.m2 x1 x2)) (by kernel_rfl) (by kernel_rfl) (by kernel_rfl) (by kernel_rfl) (chain_new rfl rfl) ?_
        have hread : ∀ k vs w, k ≤ 1 → tyD w8.drew gx v1.m1 v1.m2 x1 x2 k vs w → w.cell? ⟨gx, 23, none⟩ = some (.slice v1.C1 v1.m1 v1.d1) ∧ w.cell? ⟨gx, 40, none⟩ = some (.slice v1.C2 v1.m2 v1.d2) := fun k vs w hk h => by
          have k' := tyD_arr (Arr.drew k8) hk h
          exact ⟨(Arr.cell k' 23 (by omega)).trans (congrArg some HD2.out.1), (Arr.cell k' 40 (by omega)).trans (congrArg some HD2.out.2)⟩
        refine move_read (v := .pointer (some ⟨gx, 0, none⟩)) (by decide) (by decide) rfl (.inl rfl) (fun k vs w h => ?_) (fun K hK => ?_)
        · go_simp
        go_simp
        refine hK _ ?_
        clear hK K
        refine move_read (v := .pointer (some ⟨gx, 0, none⟩)) (by decide) (by decide) rfl (.inl rfl) (fun k vs w h => ?_) (fun K hK => ?_)
        · go_simp
        go_simp
        refine hK _ ?_
        clear hK K
        refine move_read (v := .pointer (some ⟨gx, 0, none⟩)) (by decide) (by decide) rfl (.inl rfl) (fun k vs w h => ?_) (fun K hK => ?_)
        · go_simp
        go_simp
        refine hK _ ?_
        clear hK K
        refine move_read (v := .pointer (some ⟨gx, 0, none⟩)) (by decide) (by decide) rfl (.inl rfl) (fun k vs w h => ?_) (fun K hK => ?_)
        · go_simp
        go_simp
        refine hK _ ?_
        clear hK K
        refine move_read (v := .pointer (some ⟨gx, 0, none⟩)) (by decide) (by decide) rfl (.inl rfl) (fun k vs w h => ?_) (fun K hK => ?_)
        · go_simp
        go_simp
        refine hK _ ?_
        clear hK K
        refine move_read (v := .pointer (some ⟨gx, 4, none⟩)) (by decide) (by decide) rfl (.inl rfl) (fun k vs w h => ?_) (fun K hK => ?_)
        · go_simp
        go_simp
        refine hK _ ?_
        clear hK K
        refine move_read (v := .pointer (some ⟨gx, 7, none⟩)) (by decide) (by decide) rfl (.inl rfl) (fun k vs w h => ?_) (fun K hK => ?_)
        · go_simp
        go_simp
        refine hK _ ?_
        clear hK K
        refine move_read (v := .pointer (some ⟨gx, 23, none⟩)) (by decide) (by decide) rfl (.inl rfl) (fun k vs w h => ?_) (fun K hK => ?_)
        · go_simp
        go_simp
        refine hK _ ?_
        clear hK K
        refine move_early 0 (v := .slice v1.C1 v1.m1 v1.d1) (by decide) (by decide) rfl rfl ⟨0, fun _ => undef, Nat.zero_le _, rfl⟩ (by decide) (by decide) (fun k vs w hk h => ?_) (fun K hK => ?_)
        · have cs := (hread k vs w (by omega) h).1; clear h; go_simp
        go_simp
        refine hK _ ?_
        clear hK K
        refine move_at 0 (fun u => ∃ A c, u = .slice A v1.m1 c) rfl (by decide) rfl (by decide) rfl (dd_of rfl) (by first | kernel_rfl | decide | simp [Region.binds]) (fun d hd => by first | (cases hd; done) | (cases hd; decide)) rfl ⟨_, none, 0, rfl⟩ (fun vs w h hvs => ?_) (fun v hv K hK => ?_)
        · obtain rfl : w = w8.drew := h
          go_simp
          refine HCa.out.mono ?_
          rintro e wz ⟨A', c', rfl, oz, hbz⟩
          exact ⟨_, rfl, ⟨A', c', rfl⟩, A', c', rfl, oz, hbz⟩
        obtain ⟨A', c', rfl⟩ := hv
        go_simp
        refine hK _ ?_
        clear hK K
        refine move_read (v := .pointer (some ⟨gx, 0, none⟩)) (by decide) (by decide) rfl (.inl rfl) (fun k vs w h => ?_) (fun K hK => ?_)
        · go_simp
        go_simp
        refine hK _ ?_
        clear hK K
        refine move_read (v := .pointer (some ⟨gx, 0, none⟩)) (by decide) (by decide) rfl (.inl rfl) (fun k vs w h => ?_) (fun K hK => ?_)
        · go_simp
        go_simp
        refine hK _ ?_
        clear hK K
        refine move_read (v := .pointer (some ⟨gx, 0, none⟩)) (by decide) (by decide) rfl (.inl rfl) (fun k vs w h => ?_) (fun K hK => ?_)
        · go_simp
        go_simp
        refine hK _ ?_
        clear hK K
        refine move_read (v := .pointer (some ⟨gx, 4, none⟩)) (by decide) (by decide) rfl (.inl rfl) (fun k vs w h => ?_) (fun K hK => ?_)
        · go_simp
        go_simp
        refine hK _ ?_
        clear hK K
        refine move_read (v := .pointer (some ⟨gx, 24, none⟩)) (by decide) (by decide) rfl (.inl rfl) (fun k vs w h => ?_) (fun K hK => ?_)
        · go_simp
        go_simp
        refine hK _ ?_
        clear hK K
        refine move_read (v := .pointer (some ⟨gx, 40, none⟩)) (by decide) (by decide) rfl (.inl rfl) (fun k vs w h => ?_) (fun K hK => ?_)
        · go_simp
        go_simp
        refine hK _ ?_
        clear hK K
        refine move_early 1 (v := .slice v1.C2 v1.m2 v1.d2) (by decide) (by decide) rfl rfl ⟨0, fun _ => undef, Nat.zero_le _, rfl⟩ (by decide) (by decide) (fun k vs w hk h => ?_) (fun K hK => ?_)
        · have cs := (hread k vs w (by omega) h).2; clear h; go_simp
        go_simp
        refine hK _ ?_
        clear hK K
        refine move_at 1 (fun u => ∃ B d, u = .slice B v1.m2 d) rfl (by decide) rfl (by decide) rfl (dd_of rfl) (by first | kernel_rfl | decide | simp [Region.binds]) (fun d hd => by first | (cases hd; done) | (cases hd; decide)) rfl ⟨_, none, 0, rfl⟩ (fun vs w h hvs => ?_) (fun v hv K hK => ?_)
        · obtain ⟨A2, c2, hv0, oz, hbz⟩ := h
          go_simp
          refine (HCb.out _ hbz).mono ?_
          rintro e wy ⟨B', d', rfl, oy, hby⟩
          exact ⟨_, rfl, ⟨B', d', rfl⟩, A2, c2, B', d', hv0, rfl, own_below oz hby, own_far_base oy hbz.size, hbz.trans (hby.mono hbz.size)⟩
        obtain ⟨B', d', rfl⟩ := hv
        go_simp
        refine hK _ ?_
        clear hK K
        refine move_read (v := .pointer (some ⟨gx, 0, none⟩)) (by decide) (by decide) rfl (.inl rfl) (fun k vs w h => ?_) (fun K hK => ?_)
        · go_simp
        go_simp
        refine hK _ ?_
        clear hK K
        refine move_read (v := .pointer (some ⟨gx, 0, none⟩)) (by decide) (by decide) rfl (.inl rfl) (fun k vs w h => ?_) (fun K hK => ?_)
        · go_simp
        go_simp
        refine hK _ ?_
        clear hK K
        refine move_read (v := .pointer (some ⟨gx, 4, none⟩)) (by decide) (by decide) rfl (.inl rfl) (fun k vs w h => ?_) (fun K hK => ?_)
        · go_simp
        go_simp
        refine hK _ ?_
        clear hK K
        refine move_read (v := .pointer (some ⟨gx, 7, none⟩)) (by decide) (by decide) rfl (.inl rfl) (fun k vs w h => ?_) (fun K hK => ?_)
        · go_simp
        go_simp
        refine hK _ ?_
        clear hK K
        refine move_read (v := .pointer (some ⟨gx, 23, none⟩)) (by decide) (by decide) rfl (.inl rfl) (fun k vs w h => ?_) (fun K hK => ?_)
        · go_simp
        go_simp
        refine hK _ ?_
        clear hK K
        refine move_at 2 (fun _ => True) rfl (by decide) rfl (by decide) rfl (dd_of rfl) (by first | kernel_rfl | decide | simp [Region.binds]) (fun d hd => by first | (cases hd; done) | (cases hd; decide)) rfl ⟨undef, trivial⟩ (fun vs w h hvs => ?_) (fun v hv K hK => ?_)
        · obtain ⟨A2, c2, B2, d2, hv0, hv1, oz, oy, hbz⟩ := h
          have h113 : vs 0 = .slice A' v1.m1 c' := hvs 0 113 rfl (by simp [Op.operands])
          have kz := Arr.below k8 (Below.undrew hbz) (Blk.lt k8)
          have cs : w.cell? ⟨gx, 23, none⟩ = some (.slice v1.C1 v1.m1 v1.d1) := (Arr.cell kz 23 (by omega)).trans (congrArg some HD2.out.1)
          have cf := Arr.free kz 23
          have e1 : Value.slice A' v1.m1 c' = .slice A2 v1.m1 c2 := h113.symm.trans hv0
          injection e1 with e1 _ e2
          subst e1 e2
          clear hvs
          go_simp
          exact ⟨_, _, _, _, w, hv0, hv1, oz, oy, hbz, rfl⟩
        clear hv
        go_simp
        refine hK _ ?_
        clear hK K
        refine move_read (v := .pointer (some ⟨gx, 0, none⟩)) (by decide) (by decide) rfl (.inl rfl) (fun k vs w h => ?_) (fun K hK => ?_)
        · go_simp
        go_simp
        refine hK _ ?_
        clear hK K
        refine move_read (v := .pointer (some ⟨gx, 0, none⟩)) (by decide) (by decide) rfl (.inl rfl) (fun k vs w h => ?_) (fun K hK => ?_)
        · go_simp
        go_simp
        refine hK _ ?_
        clear hK K
        refine move_read (v := .pointer (some ⟨gx, 4, none⟩)) (by decide) (by decide) rfl (.inl rfl) (fun k vs w h => ?_) (fun K hK => ?_)
        · go_simp
        go_simp
        refine hK _ ?_
        clear hK K
        refine move_read (v := .pointer (some ⟨gx, 24, none⟩)) (by decide) (by decide) rfl (.inl rfl) (fun k vs w h => ?_) (fun K hK => ?_)
        · go_simp
        go_simp
        refine hK _ ?_
        clear hK K
        refine move_read (v := .pointer (some ⟨gx, 40, none⟩)) (by decide) (by decide) rfl (.inl rfl) (fun k vs w h => ?_) (fun K hK => ?_)
        · go_simp
        go_simp
        refine hK _ ?_
        clear hK K
        refine move_at 3 (fun _ => True) rfl (by decide) rfl (by decide) rfl (dd_of rfl) (by first | kernel_rfl | decide | simp [Region.binds]) (fun d hd => by first | (cases hd; done) | (cases hd; decide)) rfl ⟨undef, trivial⟩ (fun vs w h hvs => ?_) (fun v hv K hK => ?_)
        · obtain ⟨A2, c2, B2, d2, wz, hv0, hv1, oz, oy, hbz, rfl⟩ := h
          have h121 : vs 1 = .slice B' v1.m2 d' := hvs 1 121 rfl (by simp [Op.operands])
          have kz := Arr.set (Arr.below k8 (Below.undrew hbz) (Blk.lt k8)) 23 (.slice A2 v1.m1 c2)
          have cs : (wz.setCell ⟨gx, 23, none⟩ (.slice A2 v1.m1 c2)).cell? ⟨gx, 40, none⟩ = some (.slice v1.C2 v1.m2 v1.d2) := (Arr.cell kz 40 (by omega)).trans (congrArg some HD2.out.2)
          have cf := Arr.free kz 40
          have e1 : Value.slice B' v1.m2 d' = .slice B2 v1.m2 d2 := h121.symm.trans hv1
          injection e1 with e1 _ e2
          subst e1 e2
          clear hvs
          go_simp
          exact ⟨_, _, _, _, wz, hv0, hv1, oz, oy, hbz, rfl⟩
        clear hv
        go_simp
        refine hK _ ?_
        clear hK K
        clear hread
        show ∀ L w', _ → _ → _
        intro L w9 hL hC
        obtain ⟨A9, c9, B9, d9, wc9, -, -, oA, oB, hbc, hw9⟩ := chain_end hC hL (by decide)
        clear hL hC
        obtain ⟨g89, k9, oA, oB⟩ := ty_at HK.out k8 oA oB hbc hw9
        have kn9 := Blk.only kn8 g89 (by omega)
        have OI9 := Lib.hid (own_only OI.out k8 (by decide) g89)
        have OAB := Lib.hid (And.intro oA oB)
        clear hbc hw9 oA oB k8 kn8 ks8 c41 c46 c44
        go_upto_region 20 with fail
        obtain ⟨used, hused⟩ : ∃ u : Int, ((usedN s.nA n s1 : Nat) : Int) = u := ⟨_, rfl⟩
        rw [show ((n : Nat) : Int) = used from by rw [← hused]; unfold usedN; rw [HO.out]; rfl]
        have hqq := HQQ.out
        subst hqq
        obtain ⟨FF, hFF⟩ : ∃ f, (fedV most made (s.lA ++ b) s1 ⟨A9, v1.m1, c9, B9, v1.m2, d9, v1.A, v1.nl, v1.cl, v1.D, v1.nt, v1.ct⟩ I (T - lo) ci).F = f := ⟨_, rfl⟩
        obtain ⟨f9, k9, hef, h47⟩ : ∃ f, Arr w9 gx 53 48 f ∧ (∀ i, i < 45 → f i = FF i) ∧ f 47 = .slice v1.D v1.nt v1.ct := ⟨_, k9, fun i hi => by rw [← hFF, ← left_at HO.out]; exact fed_cells i hi, rfl⟩
        have hone : ∀ i, i < 45 → (FF i).oneCell' = true := fun i _ => by rw [← hFF]; exact swH_one _ _ _ _ _ _ _ _ _ _ _ _ _ i
        have hxn : gx ≠ gn := by omega
        have HFF := Lib.hid hFF
        have HU := Lib.hid hused
        clear hFF hused
        have k9d : Arr (w9.drew) gx 53 48 f9 := k9
        have kn9d : Arr (w9.drew) gn 32 45 swZ := kn9
        refine wp_region_moves (w9.drew) (fun i => if i = 9 then some (fun _ => True) else none)
          (chainC 141 [9] [none] [] (outD (w9.drew) gn FF)) (by kernel_rfl) (by kernel_rfl) (by kernel_rfl) (by kernel_rfl) (chain_new rfl rfl) ?_
        have hread : ∀ k vs w, outD (w9.drew) gn FF k vs w → Arr w gx 53 48 f9 := fun k vs w h => outD_arr k9d hxn h
        refine move_read (v := .pointer (some ⟨gx, 0, none⟩)) (by decide) (by decide) rfl (.inl rfl) (fun k vs w h => ?_) (fun K hK => ?_)
        · go_simp
        go_simp
        refine hK _ ?_
        clear hK K
        refine move_read (v := .pointer (some ⟨gx, 0, none⟩)) (by decide) (by decide) rfl (.inl rfl) (fun k vs w h => ?_) (fun K hK => ?_)
        · go_simp
        go_simp
        refine hK _ ?_
        clear hK K
        refine move_read (v := .pointer (some ⟨gx, 0, none⟩)) (by decide) (by decide) rfl (.inl rfl) (fun k vs w h => ?_) (fun K hK => ?_)
        · go_simp
        go_simp
        refine hK _ ?_
        clear hK K
        refine move_read (v := .agg (cellsOf 45 FF)) (by decide) (by decide) rfl (.inl rfl) (fun k vs w h => ?_) (fun K hK => ?_)
        · exact run_mid 32 (.tmp 134) rfl rfl (hread k vs w h) 45 (by omega) Tryz.underlying32 rfl sw_size FF (fun i hi => (congrArg f9 (Nat.zero_add i)).trans (hef i hi))
        go_simp
        refine hK _ ?_
        clear hK K
        refine move_read (v := .pointer (some ⟨gx, 0, none⟩)) (by decide) (by decide) rfl (.inl rfl) (fun k vs w h => ?_) (fun K hK => ?_)
        · go_simp
        go_simp
        refine hK _ ?_
        clear hK K
        refine move_read (v := .pointer (some ⟨gx, 0, none⟩)) (by decide) (by decide) rfl (.inl rfl) (fun k vs w h => ?_) (fun K hK => ?_)
        · go_simp
        go_simp
        refine hK _ ?_
        clear hK K
        refine move_read (v := .pointer (some ⟨gx, 47, none⟩)) (by decide) (by decide) rfl (.inl rfl) (fun k vs w h => ?_) (fun K hK => ?_)
        · go_simp
        go_simp
        refine hK _ ?_
        clear hK K
        refine move_read (v := .slice v1.D v1.nt v1.ct) (by decide) (by decide) rfl (.inl rfl) (fun k vs w h => ?_) (fun K hK => ?_)
        · have cs := (Arr.cell (hread k vs w h) 47 (by omega)).trans (congrArg some h47); clear h; go_simp
        go_simp
        refine hK _ ?_
        clear hK K
        refine move_read (v := .int .i64 used) (by decide) (by decide) rfl (.inl rfl) (fun k vs w h => ?_) (fun K hK => ?_)
        · go_simp
        go_simp
        refine hK _ ?_
        clear hK K
        refine move_at 0 (fun _ => True) rfl (by decide) rfl (by decide) rfl (dd_of rfl) (by first | kernel_rfl | decide | simp [Region.binds]) (fun d hd => by first | (cases hd; done) | (cases hd; decide)) rfl ⟨undef, trivial⟩ (fun vs w h hvs => ?_) (fun v hv K hK => ?_)
        · obtain rfl : w = (w9.drew) := h
          exact lands_overw 32 (.tmp 4) (.tmp 135) rfl rfl rfl kn9d sw_size hone (fun w2 r2 r3 => ⟨trivial, r2, r3⟩)
        clear hv
        go_simp
        refine hK _ ?_
        clear hK K
        refine move_read (v := .slice v1.D v1.nt v1.ct) (by decide) (by decide) rfl (.inl rfl) (fun k vs w h => ?_) (fun K hK => ?_)
        · go_simp
        go_simp
        refine hK _ ?_
        clear hK K
        refine move_read (v := .int .i64 used) (by decide) (by decide) rfl (.inl rfl) (fun k vs w h => ?_) (fun K hK => ?_)
        · go_simp
        go_simp
        refine hK _ ?_
        clear hK K
        refine move_read (v := .int .i64 0) (by decide) (by decide) rfl (.inl rfl) (fun k vs w h => ?_) (fun K hK => ?_)
        · go_simp
        go_simp
        refine hK _ ?_
        clear hK K
        clear hread
        show ∀ L w', _ → _ → _
        intro L w10 hL hC
        obtain ⟨k10, g10⟩ := chain_end hC hL (by decide)
        clear hL hC
        go_wp2_with fail
        refine bodyPost_ret (results_four Tryz.results8 _ _ gn 32 _ _ _ _ _ rfl rfl rfl rfl k10 Tryz.underlying32 rfl (by rw [cellsOf_size]; exact sw_size)) rfl ?_
        have hlb : leftB (s.lA ++ b) s1 = (s.lA ++ b).drop lo := by unfold leftB; rw [HO.out, HL.out.1]; rfl
        have hll : (leftB (s.lA ++ b) s1).length = T - lo := by rw [hlb, List.length_drop, HT.out]
        have hmem := fed_done (I := I) (ci := ci) (x1 := x1) (x2 := x2) (C1 := A9) (C2 := B9) hW3 HB7.out (only_trans G78.out g89) kn9 (grown_undrew g10) hge hgx3 HP.out HSP.out.byte (by rw [hll, hlb]; exact OI9.out) (by rw [HK.out]; exact HXX.out.1) (by rw [HK.out]; exact HXX.out.2) HTT.out.1 HTT.out.2 (own_cap OAB.out.1) (own_cap OAB.out.2) (.inr (own_far_base OAB.out.1 hb8'.size)) (.inr (own_far_base OAB.out.2 hb8'.size))
        refine HE.out _ _ ⟨⟨A9, v1.m1, c9, B9, v1.m2, d9, v1.A, v1.nl, v1.cl, v1.D, v1.nt, v1.ct⟩, I, ci, ?_, hmem⟩
        rw [hll, HFF.out, HU.out]
        rfl
end Go.Proofs.YtahboomghjdjhaaGreat
