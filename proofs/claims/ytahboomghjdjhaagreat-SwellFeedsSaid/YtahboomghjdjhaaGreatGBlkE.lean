/-
  Walks: Fixed, Order.
-/
import Derived.Test.YtahboomghjdjhaaGreatG25
import Derived.Test.YtahboomghjdjhaaGreatG33
namespace Go.Proofs.YtahboomghjdjhaaGreat
open Go.RowKit

/-- A slice that lies in what was made since W, and may be read. -/
def FixRes (w w' : World) (e : Ending) : Prop := ∃ A c B d, e = .returned (.tuple #[.slice A 288 c, .slice B 32 d]) ∧ Builds w w' 5 1 A 288 c (u8s longsF) ∧ Builds w w' 5 1 B 32 d (u8s farsF)

/-- .. the two in blocks of their own. -/
def FixRes2 (w w' : World) (e : Ending) : Prop := ∃ A c B d, e = .returned (.tuple #[.slice A 288 c, .slice B 32 d]) ∧ Builds w w' 5 1 A 288 c (u8s longsF) ∧ Builds w w' 5 1 B 32 d (u8s farsF) ∧ (Value.slice A 288 c).ownBlock ≠ (Value.slice B 32 d).ownBlock
theorem own_new_ne {w w' : World} {b1 b2 e e' s s' n m c d : Nat} {A B : Option Addr} {xs ys : List Value} (h : w.ownsRow b1 e s (.slice A n c) n xs) (hn : 0 < n) (k : w'.ownsRow b2 e' s' (.slice B m d) m ys) (hb : w.heap.size ≤ b2) : (Value.slice A n c).ownBlock ≠ (Value.slice B m d).ownBlock := by
  obtain ⟨g, hg, _⟩ := own_at h hn
  subst hg
  have h1 := (h.lt g rfl).2
  intro he
  have h2 := (k.lt g he.symm).1
  omega
set_option maxRecDepth 100000 in
set_option maxHeartbeats 2000000 in
/-- The fixed lengths. -/
theorem fixed_apart (w : World) : Calls Tryz.prog 76 #[] w fun e w' => FixRes2 w w' e := by
  have H := Lib.hid fun (x n : Nat) (A : Option Addr) (w : World) (hA : Rd w A (u8s [x])) (h0 : 0 < n) (hn : n ≤ 100000) => repeat_any A 1 x n w hA h0 hn
  have HC := Lib.hid fun (S : Option Addr) (ps : List Piece) (w : World) (hS : Rd w S (ps.map pieceV)) (hp : ∀ p ∈ ps, Rd w p.A (u8s p.l)) (hn : 4 = ps.length) (hl : piecesL ps = longsF) => concat_any S 4 4 ps w hS hn hp (by omega) (by rw [hl]; decide) (by rw [hl]; decide)
  go_enter Tryz.func76, Tryz.ntmps76
  go_wp2_with fail
  refine (H.out 8 144 _ _ (Rd.new' _ _ _ _ _ (by simp) rfl) (by omega) (by omega)).mono ?_
  rintro e w1 ⟨B1, d1, rfl, h1⟩
  have b1 : Below w.heap.size w w1 := ((Below.refl _ _).alloc (Nat.le_refl _) _).trans (h1.1.mono (by simp))
  have r1 := h1.rd
  clear h1
  go_wp2_with fail
  refine (H.out 9 112 _ _ (Rd.new' _ _ _ _ _ (by simp) rfl) (by omega) (by omega)).mono ?_
  rintro e w2 ⟨B2, d2, rfl, h2⟩
  have c2 : Below w1.heap.size w1 w2 := ((Below.refl _ _).alloc (Nat.le_refl _) _).trans (h2.1.mono (by simp))
  have b2 : Below w.heap.size w w2 := b1.trans (c2.mono b1.size)
  have s1 := r1.below c2
  have r2 := h2.rd
  clear h2 r1 c2
  go_wp2_with fail
  refine (H.out 7 24 _ _ (Rd.new' _ _ _ _ _ (by simp) rfl) (by omega) (by omega)).mono ?_
  rintro e w3 ⟨B3, d3, rfl, h3⟩
  have c3 : Below w2.heap.size w2 w3 := ((Below.refl _ _).alloc (Nat.le_refl _) _).trans (h3.1.mono (by simp))
  have b3 : Below w.heap.size w w3 := b2.trans (c3.mono b2.size)
  have t1 := s1.below c3
  have t2 := r2.below c3
  have r3 := h3.rd
  clear h3 s1 r2 c3
  go_wp2_with fail
  refine (H.out 8 8 _ _ (Rd.new' _ _ _ _ _ (by simp) rfl) (by omega) (by omega)).mono ?_
  rintro e w4 ⟨B4, d4, rfl, h4⟩
  have c4 : Below w3.heap.size w3 w4 := ((Below.refl _ _).alloc (Nat.le_refl _) _).trans (h4.1.mono (by simp))
  have b4 : Below w.heap.size w w4 := b3.trans (c4.mono b3.size)
  have u1 := t1.below c4
  have u2 := t2.below c4
  have u3 := r3.below c4
  have u4 := h4.rd
  clear h4 t1 t2 r3 c4 b1 b2 b3
  have HU := Lib.hid (And.intro u1 (And.intro u2 (And.intro u3 u4)))
  clear u1 u2 u3 u4
  go_wp2_with fail
  refine (HC.out _ [⟨B1, d1, List.replicate 144 8⟩, ⟨B2, d2, List.replicate 112 9⟩, ⟨B3, d3, List.replicate 24 7⟩, ⟨B4, d4, List.replicate 8 8⟩] _ (Rd.new' _ _ _ _ _ (by simp) rfl) ?_ rfl ?_).mono ?_
  · obtain ⟨u1, u2, u3, u4⟩ := HU.out
    intro p hp
    simp only [List.mem_cons, List.not_mem_nil, or_false] at hp
    rcases hp with rfl | rfl | rfl | rfl
    · exact u1.alloc _
    · exact u2.alloc _
    · exact u3.alloc _
    · exact u4.alloc _
  · simp [piecesL, longsF]
  rintro e w5 ⟨A, c, rfl, h5⟩
  rw [show piecesL [⟨B1, d1, List.replicate 144 8⟩, ⟨B2, d2, List.replicate 112 9⟩, ⟨B3, d3, List.replicate 24 7⟩, ⟨B4, d4, List.replicate 8 8⟩] = longsF by simp [piecesL, longsF], show longsF.length = 288 by decide] at *
  have g5 : Builds w w5 5 1 A 288 c (u8s longsF) := h5.rebase (b4.alloc b4.size _)
  clear h5 HU b4
  go_wp2_with fail
  refine (H.out 5 32 _ _ (Rd.new' _ _ _ _ _ (by simp) rfl) (by omega) (by omega)).mono ?_
  rintro e w6 ⟨B, d, rfl, h6⟩
  have c6 : Below w5.heap.size w5 w6 := ((Below.refl _ _).alloc (Nat.le_refl _) _).trans (h6.1.mono (by simp))
  have g6 : Builds w w6 5 1 B 32 d (u8s farsF) := h6.rebase (g5.1.alloc g5.1.size _)
  have g7 := g5.below c6
  have hne := Lib.hid (own_new_ne g5.2 (by omega) h6.2 (by simp))
  go_wp2_with fail
  go_ret2
  exact ⟨A, c, B, d, rfl, g7, g6, hne.out⟩
theorem fixed_any (w : World) : Calls Tryz.prog 76 #[] w fun e w' => FixRes w w' e :=
  (fixed_apart w).mono fun _ _ ⟨A, c, B, d, h1, h2, h3, _⟩ => ⟨A, c, B, d, h1, h2, h3⟩

/-- The order, as a value. -/
def orderV : Array Value := (orderL.map fun (x : Nat) => Value.int .i64 (x : Int)).toArray
theorem results_one_row {P : Program} {fn : Func} {p : Tmp} {ty : TypeId} (h : fn.results = #[.cell p ty]) (tmps : Array Value) (w : World) (g : Nat) (t : TypeId) (cs : Array Value) (d : TypeDesc)
    (hp : tmps.getD p undef = .pointer (some ⟨g, 0, none⟩)) (hg : Blk w g t cs)
    (hu : P.underlying ty = some d) (hd : (match d with | .struct _ | .array _ _ => true | _ => false) = true) (hi : (P.info? ty).map (·.size) = some cs.size) :
    (results fn tmps).run P w = .ok (.agg cs) w := by
  have hp' : tmps[p]?.getD undef = .pointer (some ⟨g, 0, none⟩) := by simpa using hp
  simp [results, h, hp', asAddr, run_loadVar_row w g t ty cs (0, 0) d hg hu hd hi]
set_option maxRecDepth 100000 in
set_option maxHeartbeats 1000000 in
theorem order_any (w : World) : Calls Tryz.prog 100 #[] w fun e w' => e = .returned (.agg orderV) ∧ Below w.heap.size w w' := by
  go_enter Tryz.func100, Tryz.ntmps100
  go_wp2_with (first
    | (refine wpList_build_to rfl _ _ rfl orderV (by kernel_rfl) ?_)
    | (refine wpList_store_new rfl _ _ _ rfl _ orderV rfl rfl (by simp) _ _ (by kernel_rfl) rfl (by kernel_rfl) ?_))
  exact bodyPost_ret (results_one_row Tryz.results100 _ _ w.heap.size 149 orderV _ rfl (Blk.new' _ _ _ _ rfl) Tryz.underlying149 rfl (by kernel_rfl)) rfl ⟨rfl, (Below.refl _ _).alloc (Nat.le_refl _) _⟩
end Go.Proofs.YtahboomghjdjhaaGreat
