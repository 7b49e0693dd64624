/-
  Walks: the law TreeBack.
-/
import Derived.Test.YtpfhaalbikgmnaaTreeY
import Derived.Test.YtpfhaalbikgmnaaTreeZb
import Derived.StillTailTactics
namespace Go.Proofs.Ytpfhaalbikgmnaa
open Go.RowKit


/-- What Put of a code tells. -/
def PutR (p : List Nat) (q : Int) (v y : Nat) (w' : World) (A' : Option Addr) (n' c' : Nat) (z E : Int) : Prop :=
  (mayB p q = false ∧ E = 8) ∨ (mayB p q = true ∧ E = 0 ∧ z = q + y ∧ ∃ base, w'.ownsRow base 5 1 (.slice A' n' c') n' (u8s (putL p q.toNat v y)))
theorem PutR.alloc {p : List Nat} {q : Int} {v y : Nat} {w' : World} {A' : Option Addr} {n' c' : Nat} {z E : Int} (h : PutR p q v y w' A' n' c' z E) (o : Obj) : PutR p q v y (w'.alloc o) A' n' c' z E := by
  rcases h with h | ⟨h1, h2, h3, b, h4⟩
  · exact .inl h
  · exact .inr ⟨h1, h2, h3, b, h4.alloc o⟩
theorem PutR.set {p : List Nat} {q : Int} {v y : Nat} {w' : World} {A' : Option Addr} {n' c' : Nat} {z E : Int} (h : PutR p q v y w' A' n' c' z E) {g : Nat} {cs : Array Value} (k : Blk w' g 48 cs) (i : Nat) (u : Value) : PutR p q v y (w'.setCell ⟨g, i, none⟩ u) A' n' c' z E := by
  rcases h with h | ⟨h1, h2, h3, b, h4⟩
  · exact .inl h
  · exact .inr ⟨h1, h2, h3, b, own_far h4 (p := ⟨g, i, none⟩) (own_blk_ne h4 k (by decide)) u⟩

set_option maxRecDepth 100000 in
set_option maxHeartbeats 4000000 in
theorem law_tback' (A : Option Addr) (l : List Nat) (c : Nat) (m s : Int) (D : Option Addr) (p : List Nat) (d : Nat) (q : Int) (w : World) (nl np : Nat) (hnl : nl = l.length) (hnp : np = p.length)
    (hl : Bs w A l) (hm : nl ≤ maxLen) (h1 : -9223372036854775808 ≤ m) (h2 : m ≤ 9223372036854775807) (hp : Bs w D p) (hD : D = none → p = []) (hpm : np ≤ maxLen) (h3 : -9223372036854775808 ≤ q) (h4 : q ≤ 9223372036854775807) :
    Calls Try.prog 8 #[.slice A nl c, .int .i64 m, .int .i64 s, .agg #[.slice D np d, .int .i64 q]] w fun e w' => e = .returned (.bool true) ∧ Below w.heap.size w w' := by
  unfold maxLen at hm hpm
  have HN := Lib.hid (And.intro hnl (And.intro hnp hD))
  have k7 : Blk (w.alloc (.cells #[.slice D np d, .int .i64 q] 48)) w.heap.size 48 #[.slice D np d, .int .i64 q] := Blk.new _ _ _
  have hb0 : Below w.heap.size w (w.alloc (.cells #[.slice D np d, .int .i64 q] 48)) := (Below.refl _ _).alloc (Nat.le_refl _) _
  have HV := Lib.hid tree_alive_any
  clear hnl hnp hD
  by_cases hbig : 400 < nl ∨ 1000 < np
  · have hcases : 400 < nl ∨ (¬ 400 < nl ∧ 1000 < np) := by omega
    clear hbig
    rcases hcases with hq | ⟨hpp, hq⟩
    all_goals
      go_enter Try.func8, Try.ntmps8
      go_upto_region 1 with (fail)
      change Code.wp _ _ _ _ (w.alloc (.cells #[.slice D np d, .int .i64 q] 48))
      generalize w.alloc (.cells #[.slice D np d, .int .i64 q] 48) = W0 at *
      go_wp2_with (go_at_call 19; refine (HV.out _).mono ?_; rintro e W1 ⟨rfl, b1⟩; have hb1 := hb0.trans (b1.mono hb0.size); have c7 := Blk.cells (Blk.below k7 b1 (Blk.lt k7)))
      go_ret
      exact ⟨rfl, hb1⟩
  · have g1 : nl ≤ 400 := by omega
    have g2 : np ≤ 1000 := by omega
    have d1 : decide ((400 : Int) < (nl : Int)) = false := decide_eq_false (by omega)
    have d2 : decide ((1000 : Int) < (np : Int)) = false := decide_eq_false (by omega)
    clear hbig
    have HQ := Lib.hid (fun wx (h : Bs wx A l) => show Calls Try.prog 22 #[.slice A nl c, .int .i64 m] wx (fun e w' => CodRes wx w' e l m) from by have := codes_any A c l m wx h (by rw [← HN.out.1]; omega) h1 h2; rw [← HN.out.1] at this; exact this)
    have HG := Lib.hid (fun wx (h : Bs wx A l) => grow_is A c nl l m wx h HN.out.1 (by omega) h1 h2)
    unfold CodRes at HQ
    by_cases hE : canE l m = 0
    · rw [hE] at HQ HG
      have hcl : canL l m = codesL l := by unfold canL; rw [if_pos hE]
      rw [hcl, codesL_length, ← HN.out.1] at HQ
      have hgx := gX_len l m
      rw [← HN.out.1] at hgx
      have hfc := chk_gF hE
      have HK := Lib.hid (fun wx B d (h : Rd wx B (ints (gX l m))) (hd : (gX l m).length ≤ d) => show Calls Try.prog 13 #[.agg (cellsOf 17 (treeH (gF l m) (.slice B (gX l m).length d)))] wx (fun e w' => e = .returned (.int .i64 0) ∧ Below wx.heap.size wx w') from by
        have := tcheck_any (gF l m) B (gX l m).length d (gX l m) wx h rfl hd (by omega)
        unfold ChkRes at this
        rw [hfc] at this
        exact this)
      have HX := Lib.hid (fun wx B d A' c' (b : List Nat) nb (qn : Nat) (hq : qn ≤ 9000) (h : Rd wx B (ints (gX l m))) (hd : (gX l m).length ≤ d) (hb : Bs wx A' b) (hnb : nb = b.length) (hb2 : nb ≤ 9000) => show Calls Try.prog 20 #[.agg (cellsOf 17 (treeH (gF l m) (.slice B (gX l m).length d))), .slice A' nb c', .int .i64 (qn : Int)] wx (fun e w' => ReadRes wx w' e (nxT (gF l m) (gX l m) b qn)) from
        tnext_any (gF l m) B A' (gX l m).length d nb c' (gX l m) b qn wx h rfl hd (by omega) hb hnb (by omega) (by omega) (by omega))
      obtain ⟨nz, hnz⟩ : ∃ nz, (gX l m).length = nz := ⟨_, rfl⟩
      rw [hnz] at HG HK HX hgx
      have HE := Lib.hid hE
      clear hE hcl hfc hnz
      go_enter Try.func8, Try.ntmps8
      go_upto_region 1 with (fail)
      change Code.wp _ _ _ _ (w.alloc (.cells #[.slice D np d, .int .i64 q] 48))
      generalize w.alloc (.cells #[.slice D np d, .int .i64 q] 48) = W0 at *
      go_upto_region 6 with (first
        | (go_at_call 19; refine (HV.out _).mono ?_; rintro e W1 ⟨rfl, b1⟩; have hb1 := hb0.trans (b1.mono hb0.size); have k71 := Blk.below k7 b1 (Blk.lt k7); have c7 := Blk.cells k71; have hl1 := hl.below hb1)
        | (go_at_call 22; refine (HQ.out _ hl1).mono ?_; rintro e W2 ⟨C, dC, rfl, hC⟩; have hb2 := hb1.trans (hC.1.mono hb1.size); have hl2 := hl.below hb2)
        | (go_at_call 10; refine (HG.out _ hl2).mono ?_; rintro e W3 ⟨B, dB, rfl, hT⟩)
        | (refine store_new rfl 26 (.tmp 12) (.tmp 46) rfl _ _ rfl rfl rfl 26 _ (by rw [cellsOf_size]; exact tree_size) (by rw [cellsOf_size]; rfl) (cellsOf_one (fun k _ => treeH_one _ _ _ _ k)) ?_))
      change Code.wp _ _ _ _ (W3.alloc (.cells (cellsOf 17 (treeH (gF l m) (.slice B nz dB))) 26))
      have k12 : Arr (W3.alloc (.cells (cellsOf 17 (treeH (gF l m) (.slice B nz dB))) 26)) W3.heap.size 26 17 (treeH (gF l m) (.slice B nz dB)) := Blk.new _ _ _
      have b4 : Below W2.heap.size W2 (W3.alloc (.cells (cellsOf 17 (treeH (gF l m) (.slice B nz dB))) 26)) := hT.1.alloc hT.1.size _
      have hb4 := hb2.trans (b4.mono hb2.size)
      have hrd := hT.rd.alloc (.cells (cellsOf 17 (treeH (gF l m) (.slice B nz dB))) 26)
      have hcap := hT.cap
      have hC4 := hC.rd.below b4
      have k74 := Blk.below k71 (hC.1.trans (b4.mono hC.1.size)) (Blk.lt k71)
      generalize W3.alloc (.cells (cellsOf 17 (treeH (gF l m) (.slice B nz dB))) 26) = W4 at *
      clear HQ HG k7 hb0 b1 hb1 k71 c7 hl1 hC hb2 hl2 hT b4 HV
      by_cases hs : s < 0 ∨ (nl : Int) ≤ s
      · have hcases : s < 0 ∨ (¬ s < 0 ∧ (nl : Int) ≤ s) := by omega
        clear hs
        rcases hcases with hs | ⟨hs0, hs⟩
        case' inl => have d3 : decide (s < 0) = true := decide_eq_true hs
        case' inr => have d3 : decide (s < 0) = false := decide_eq_false hs0
        all_goals
          go_upto_region 9 with (first
            | (refine load_arrG rfl 26 (.tmp 12) rfl rfl k12 tree_under rfl tree_size ?_)
            | (go_at_call 13; refine (HK.out _ _ _ hrd hcap).mono ?_; rintro e W5 ⟨rfl, b5⟩; have hb5 := hb4.trans (b5.mono hb4.size); have k125 := Arr.below k12 b5 (Blk.lt k12); have hrd5 := hrd.below b5))
          go_wp2_with (first
            | (refine load_arrG rfl 26 (.tmp 12) rfl rfl k125 tree_under rfl tree_size ?_)
            | (go_at_call 13; refine (HK.out _ _ _ hrd5 hcap).mono ?_; rintro e W6 ⟨rfl, b6⟩; have hb6 := hb5.trans (b6.mono hb5.size)))
          go_ret
          exact ⟨rfl, hb6⟩
      · obtain ⟨i, rfl⟩ : ∃ i : Nat, s = (i : Int) := ⟨s.toNat, by omega⟩
        have hi : i < nl := by omega
        have d3 : decide ((i : Int) < 0) = false := decide_eq_false (by omega)
        have d4 : decide ((nl : Int) ≤ (i : Int)) = false := decide_eq_false (by omega)
        have d5 : decide (nl ≤ i) = false := decide_eq_false (by omega)
        obtain ⟨g, off, rfl, hc1, hc2⟩ := hC4.at_code (i := i) (by rw [← HN.out.1]; exact hi)
        obtain ⟨hq1, hq2, hq3, hq4, hq5, hq6⟩ := canE_ok HE.out
        have hi' : i < l.length := by rw [← HN.out.1]; exact hi
        have hy15 := nth_le_t (l := l) (fun x hx => by have := hq4 x hx; omega) i
        have hxf := code_fits (l := l) (fun x hx => by have := hq4 x hx; omega) hq5 hi'
        have hxl := code_le (l := l) (fun x hx => by have := hq4 x hx; omega) hq5 hi'
        by_cases hy0 : nth l i = 0
        · rw [hy0] at hc2
          clear hs
          go_upto_region 9 with (first
            | (refine load_arrG rfl 26 (.tmp 12) rfl rfl k12 tree_under rfl tree_size ?_)
            | (go_at_call 13; refine (HK.out _ _ _ hrd hcap).mono ?_; rintro e W5 ⟨rfl, b5⟩; have hb5 := hb4.trans (b5.mono hb4.size); have k125 := Arr.below k12 b5 (Blk.lt k12); have hrd5 := hrd.below b5; have hc25 := (b5.cell (p := ⟨g, off + i * 2 + 1, none⟩) (cell_lt hc2)).trans hc2))
          go_wp2_with (first
            | (refine load_arrG rfl 26 (.tmp 12) rfl rfl k125 tree_under rfl tree_size ?_)
            | (go_at_call 13; refine (HK.out _ _ _ hrd5 hcap).mono ?_; rintro e W6 ⟨rfl, b6⟩; have hb6 := hb5.trans (b6.mono hb5.size)))
          go_ret
          exact ⟨rfl, hb6⟩
        · have HB := Lib.hid (fun (hP : Pen p q.toNat) => nx_back HE.out hi' hy0 hP)
          obtain ⟨x, hx⟩ : ∃ x, (codeAt l i).1 = x := ⟨_, rfl⟩
          obtain ⟨y, hy⟩ : ∃ y, nth l i = y := ⟨_, rfl⟩
          rw [hx, hy] at HB
          rw [hx] at hc1 hxf hxl
          rw [hy] at hc2 hxf hy15 hy0
          have HT := Lib.hid (fun wx => turn_is x (y : Int) wx (rev x y) (by unfold fitsB; exact decide_eq_true ⟨by omega, by omega, by rw [Int.toNat_natCast]; exact hxf⟩) (by rw [Int.toNat_natCast]) (by omega))
          have hyb : ((y : Int) == 0) = false := by rw [beq_eq_false_iff_ne]; omega
          have hv := rev_lt x y
          generalize rev x y = v at *
          clear hs hx hy hxf hq4 hq6
          go_upto_region 10 with (first
            | (refine load_arrG rfl 26 (.tmp 12) rfl rfl k12 tree_under rfl tree_size ?_)
            | (go_at_call 13; refine (HK.out _ _ _ hrd hcap).mono ?_; rintro e W5 ⟨rfl, b5⟩; have hb5 := hb4.trans (b5.mono hb4.size); have k125 := Arr.below k12 b5 (Blk.lt k12); have hrd5 := hrd.below b5; have hc25 := (b5.cell (p := ⟨g, off + i * 2 + 1, none⟩) (cell_lt hc2)).trans hc2; have hc15 := (b5.cell (p := ⟨g, off + i * 2, none⟩) (cell_lt hc1)).trans hc1; have k75 := Blk.below k74 b5 (Blk.lt k74); have c7 := Blk.cells k75))
          go_quiet ((go_at_call 23; exact Calls.quiet_of_same ((HT.out _).mono fun e w' ⟨he, hw⟩ => ⟨he, hw.symm⟩)))
          go_upto_region 11 with (fail)
          have hb6 : Below w.heap.size w (W5.drewN nq) := below_drewN' hb5 nq
          have k126 : Arr (W5.drewN nq) W3.heap.size 26 17 (treeH (gF l m) (.slice B nz dB)) := Arr.drewN k125 nq
          have k76 : Blk (W5.drewN nq) w.heap.size 48 #[.slice D np d, .int .i64 q] := k75
          have hrd6 : Rd (W5.drewN nq) B (ints (gX l m)) := hrd5.drewN nq
          have hc26 : (W5.drewN nq).cell? ⟨g, off + i * 2 + 1, none⟩ = some (.int .u8 (y : Int)) := hc25
          generalize W5.drewN nq = W6 at *
          clear c7 k75 hc15 hc25 hrd5 k125 hb5 b5 hc1 hc2 hrd k12 k74 hb4 hC4 HT HK
          have HS := Lib.hid (fun wx (b : Below W6.heap.size W6 wx) => show wx.cell? ⟨w.heap.size, 0, none⟩ = some (.slice D np d) ∧ wx.cell? ⟨w.heap.size, 1, none⟩ = some (.int .i64 q) ∧ wx.cell? ⟨g, off + i * 2 + 1, none⟩ = some (.int .u8 (y : Int)) from ⟨(Blk.below k76 b (Blk.lt k76)).cell 0, (Blk.below k76 b (Blk.lt k76)).cell 1, (b.cell (p := ⟨g, off + i * 2 + 1, none⟩) (cell_lt hc26)).trans hc26⟩)
          have s0 := HS.out W6 (Below.refl _ _)
          have HPt := Lib.hid (fun wx (b : Below W6.heap.size W6 wx) => show Calls Try.prog 24 #[.agg #[.slice D np d, .int .i64 q], .int .u32 (v : Int), .int .i64 (IntKind.i64.wrap (y : Int))] wx (fun e w' => ∃ A' n' c' z E, e = .returned (.tuple #[.agg #[.slice A' n' c', .int .i64 z], .int .i64 E]) ∧ Below W6.heap.size W6 w' ∧ Below wx.heap.size wx w' ∧ Hid (PutR p q v y w' A' n' c' z E)) from by
            rw [IntWalk.i64_in (y : Int) (by omega)]
            by_cases hmay : mayB p q = true
            · obtain ⟨k, rfl⟩ : ∃ k : Nat, q = (k : Int) := by
                obtain ⟨m', e, h1, h2, h3⟩ := mayB_true hmay
                exact ⟨m', by omega⟩
              have hP := (Pen.of_may hp.2 hmay).1
              have hlen := hP.len
              have hk : k ≤ 8000 := by have := HN.out.2.1; omega
              have := put_ok D d p k v y wx (hp.below (hb6.trans (b.mono hb6.size))) HN.out.2.2 (by omega) hmay (Nat.lt_of_lt_of_le hv (show 2 ^ y ≤ 4294967296 from Nat.pow_le_pow_right (n := 2) (by omega) (show y ≤ 32 by omega))) (by unfold fitsB; exact decide_eq_true ⟨by omega, by omega, by rw [Int.toNat_natCast]; exact hv⟩) (by omega)
              rw [← HN.out.2.1] at this
              refine this.mono fun e w' ⟨h1, A', c', he, ho⟩ => ⟨A', _, c', _, _, he, b.trans (h1.mono b.size), h1, Lib.hid (.inr ⟨hmay, rfl, by omega, _, by rw [Int.toNat_natCast]; exact ho⟩)⟩
            · have hmay' : mayB p q = false := by simpa using hmay
              have := put_bad D d p q v y wx (hp.below (hb6.trans (b.mono hb6.size))) (by rw [← HN.out.2.1]; omega) h3 h4 hmay'
              rw [← HN.out.2.1] at this
              refine this.mono fun e w' ⟨h1, A', c', he, ho⟩ => ⟨A', 0, c', 0, 8, he, b.trans (h1.mono b.size), h1, Lib.hid (.inl ⟨hmay', rfl⟩)⟩)
          have c0 : Below W6.heap.size W6 W6 := Below.refl _ _
          have C1 := Lib.hid (show Below W6.heap.size W6 W6.drew from Below.drew c0)
          have C2 := Lib.hid (fun (o : Obj) => show Below W6.heap.size W6 (W6.drew.alloc o) from Below.alloc (Below.drew c0) (Nat.le_refl _) o)
          have C5 := Lib.hid (fun (o : Obj) => show Below W6.heap.size W6 (W6.alloc o).drew from Below.drew (Below.alloc c0 (Nat.le_refl _) o))
          have KX := Lib.hid (fun (wy : World) (b : Below (W6.alloc (.cells #[.slice none 0 0, .int .i64 0] 48)).drew.heap.size (W6.alloc (.cells #[.slice none 0 0, .int .i64 0] 48)).drew wy) => show Blk wy W6.heap.size 48 #[.slice none 0 0, .int .i64 0] from Blk.below (w := (W6.alloc (.cells #[.slice none 0 0, .int .i64 0] 48)).drew) (Blk.new W6 _ _) b (Blk.lt (Blk.new W6 _ _)))
          have HSA := Lib.hid (fun (o : Obj) => HS.out _ (Below.alloc c0 (Nat.le_refl _) o))
          have HSB := Lib.hid (fun (o : Obj) => HS.out _ (Below.drew (Below.alloc c0 (Nat.le_refl _) o)))
          have C4 := Lib.hid (fun (o : Obj) => show Below W6.heap.size W6 (W6.alloc o) from Below.alloc c0 (Nat.le_refl _) o)
          go_region_held3 (fun wx => wx.cell? ⟨w.heap.size, 0, none⟩ = some (.slice D np d) ∧ wx.cell? ⟨w.heap.size, 1, none⟩ = some (.int .i64 q) ∧ wx.cell? ⟨g, off + i * 2 + 1, none⟩ = some (.int .u8 (y : Int))) (first | exact s0 | exact s1 | exact HSA.out _ | exact HSB.out _ | exact HS7.out _ | exact HS7.out _ _ | exact HS8.out _ _ _) (first
            | (go_at_call 24; with_reducible refine Calls.mono (HPt.out _ C1.out) ?_; rintro e w7 ⟨A', n', c', z, E, rfl, b7, b8, hR⟩; have s1 := HS.out _ b7; have HS7 := Lib.hid (fun (o : Obj) => HS.out _ (b7.alloc b7.size o)); have HS8 := Lib.hid (fun (o : Obj) (v v' : Value) => HS.out _ (((b7.alloc b7.size o).setCell (p := ⟨w7.heap.size, 0, none⟩) b7.size v).setCell (p := ⟨w7.heap.size, 1, none⟩) b7.size v')))
            | (go_at_call 24; with_reducible refine Calls.mono (HPt.out _ (C2.out _)) ?_; rintro e w7 ⟨A', n', c', z, E, rfl, b7, b8, hR⟩; have s1 := HS.out _ b7; have HS7 := Lib.hid (fun (o : Obj) => HS.out _ (b7.alloc b7.size o)); have HS8 := Lib.hid (fun (o : Obj) (v v' : Value) => HS.out _ (((b7.alloc b7.size o).setCell (p := ⟨w7.heap.size, 0, none⟩) b7.size v).setCell (p := ⟨w7.heap.size, 1, none⟩) b7.size v')))
            | (go_at_call 24; with_reducible refine Calls.mono (HPt.out _ (C4.out _)) ?_; rintro e w7 ⟨A', n', c', z, E, rfl, b7, b8, hR⟩; have s1 := HS.out _ b7; have HS7 := Lib.hid (fun (o : Obj) => HS.out _ (b7.alloc b7.size o)); have HS8 := Lib.hid (fun (o : Obj) (v v' : Value) => HS.out _ (((b7.alloc b7.size o).setCell (p := ⟨w7.heap.size, 0, none⟩) b7.size v).setCell (p := ⟨w7.heap.size, 1, none⟩) b7.size v')))
            | (go_at_call 24; with_reducible refine Calls.mono (HPt.out _ (C5.out _)) ?_; rintro e w7 ⟨A', n', c', z, E, rfl, b7, b8, hR⟩; have s1 := HS.out _ b7; have kx := KX.out _ b8; have cx := Blk.cells kx; have fx := Blk.frozens kx; have HS7 := Lib.hid (fun (v v' : Value) => HS.out _ ((b7.setCell (p := ⟨W6.heap.size, 0, none⟩) (Nat.le_refl _) v).setCell (p := ⟨W6.heap.size, 1, none⟩) (Nat.le_refl _) v'))))
          case' _ =>
            have kz : Blk (w7.alloc (.cells #[.slice A' n' c', .int .i64 z] 48)) w7.heap.size 48 #[.slice A' n' c', .int .i64 z] := Blk.new _ _ _
            have bz : Below W6.heap.size W6 (w7.alloc (.cells #[.slice A' n' c', .int .i64 z] 48)) := b7.alloc b7.size _
            have hZ := Lib.hid (hR.out.alloc (.cells #[.slice A' n' c', .int .i64 z] 48))
            clear s0 s1 b7 b8 hR HS C1 C2 C4 C5 KX HSA HSB HPt HS7 HS8
            generalize w7.alloc (.cells #[.slice A' n' c', .int .i64 z] 48) = Wz at *
            generalize w7.heap.size = X at *
          rotate_left
          case' _ =>
            have kz : Blk ((w7.setCell ⟨W6.heap.size, 0, none⟩ (.slice A' n' c')).setCell ⟨W6.heap.size, 1, none⟩ (.int .i64 z)) W6.heap.size 48 #[.slice A' n' c', .int .i64 z] := Blk.set_ (Blk.set_ kx 0 _) 1 _
            have bz : Below W6.heap.size W6 ((w7.setCell ⟨W6.heap.size, 0, none⟩ (.slice A' n' c')).setCell ⟨W6.heap.size, 1, none⟩ (.int .i64 z)) := (b7.setCell (p := ⟨W6.heap.size, 0, none⟩) (Nat.le_refl _) _).setCell (p := ⟨W6.heap.size, 1, none⟩) (Nat.le_refl _) _
            have hZ := Lib.hid ((hR.out.set kx 0 (.slice A' n' c')).set (Blk.set_ kx 0 (.slice A' n' c')) 1 (.int .i64 z))
            clear s0 s1 b7 b8 hR HS C1 C2 C4 C5 KX HSA HSB HPt HS7 kx cx fx
            generalize (w7.setCell ⟨W6.heap.size, 0, none⟩ (.slice A' n' c')).setCell ⟨W6.heap.size, 1, none⟩ (.int .i64 z) = Wz at *
            obtain ⟨X, hX⟩ : ∃ X, W6.heap.size = X := ⟨_, rfl⟩
            rw [hX] at kz
            rw [hX]
            clear hX
          all_goals
            have hbz := hb6.trans (bz.mono hb6.size)
            have c7 := Blk.cells (Blk.below k76 bz (Blk.lt k76))
            have k12z := Arr.below k126 bz (Blk.lt k126)
            have hrdz := hrd6.below bz
            have hpz := hp.below hbz
            have cz := Blk.cells kz
            clear hc26 k76 k126 hrd6 hp bz hb6
            rcases hZ.out with ⟨hmay, rfl⟩ | ⟨hmay, rfl, hzq, base, hown⟩
            · have HCk := Lib.hid (pcheck_any D d p q Wz hpz (by rw [← HN.out.2.1]; omega) h3 h4)
              rw [show pchkE p q = 8 by unfold pchkE; rw [hmay]; rfl, ← HN.out.2.1] at HCk
              clear hmay hZ
              go_wp2_with (go_at_call 25; refine (HCk.out).mono ?_; rintro e W8 ⟨rfl, b8⟩)
              go_ret
              exact ⟨rfl, hbz.trans (b8.mono hbz.size)⟩
            · obtain ⟨k, rfl⟩ : ∃ k : Nat, q = (k : Int) := by
                obtain ⟨m', e, h1, h2, h3⟩ := mayB_true hmay
                exact ⟨m', by omega⟩
              have hP := (Pen.of_may hpz.2 hmay).1
              have hlen := hP.len
              have hPp := (hP.put v y).1
              rw [Int.toNat_natCast] at hown
              have hnb : n' = (putL p k v y).length := by have := hown.1; rw [u8s_length, Nat.mul_one] at this; exact this.symm
              have hplen := hPp.len
              have hk : k ≤ 8000 := by have := HN.out.2.1; omega
              have HNx := Lib.hid (HX.out Wz B dB A' c' (putL p k v y) n' k (by omega) hrdz hcap (Bs.of_own hown hPp.byte) hnb (by omega))
              have hb := HB.out
              rw [Int.toNat_natCast] at hb
              rw [hb hP] at HNx
              unfold ReadRes at HNx
              have hz : z = ((k + y : Nat) : Int) := by omega
              subst hz
              clear hZ hmay hzq hown hb hP hPp hlen hplen hnb HX HB
              go_wp2_with (first
                | (refine load_arrG rfl 26 (.tmp 12) rfl rfl k12z tree_under rfl tree_size ?_)
                | (go_at_call 20; refine (HNx.out).mono ?_; rintro e W8 ⟨rfl, b8⟩; have c8 := Blk.cells (Blk.below kz b8 (Blk.lt kz))))
              go_ret
              exact ⟨rfl, hbz.trans (b8.mono hbz.size)⟩
    · have hne : (((canE l m : Nat) : Int) != 0) = true := by rw [bne_iff_ne]; omega
      generalize canE l m = E at *
      go_enter Try.func8, Try.ntmps8
      go_upto_region 1 with (fail)
      change Code.wp _ _ _ _ (w.alloc (.cells #[.slice D np d, .int .i64 q] 48))
      generalize w.alloc (.cells #[.slice D np d, .int .i64 q] 48) = W0 at *
      go_wp2_with (first
        | (go_at_call 19; refine (HV.out _).mono ?_; rintro e W1 ⟨rfl, b1⟩; have hb1 := hb0.trans (b1.mono hb0.size); have c7 := Blk.cells (Blk.below k7 b1 (Blk.lt k7)); have hl1 := hl.below hb1)
        | (go_at_call 22; refine (HQ.out _ hl1).mono ?_; rintro e W2 ⟨C, dC, rfl, hC⟩; have hb2 := hb1.trans (hC.1.mono hb1.size); have hl2 := hl.below hb2)
        | (go_at_call 10; refine (HG.out _ hl2).mono ?_; rintro e W3 ⟨B, dB, rfl, hT⟩; have hb3 := hb2.trans (hT.1.mono hb2.size))
        | (refine store_new rfl 26 (.tmp 12) (.tmp 46) rfl _ _ rfl rfl rfl 26 _ (by rw [cellsOf_size]; exact tree_size) (by rw [cellsOf_size]; rfl) (cellsOf_one (fun k _ => treeH_one _ _ _ _ k)) ?_))
      go_ret
      exact ⟨rfl, hb3.alloc hb3.size _⟩

theorem law_tback (A : Option Addr) (l : List Nat) (c : Nat) (m s : Int) (D : Option Addr) (p : List Nat) (d : Nat) (q : Int) (w : World)
    (hl : InBs w A l) (h1 : -9223372036854775808 ≤ m) (h2 : m ≤ 9223372036854775807) (_ : -9223372036854775808 ≤ s) (_ : s ≤ 9223372036854775807) (hp : InBs w D p) (h3 : -9223372036854775808 ≤ q) (h4 : q ≤ 9223372036854775807) :
    Calls Try.prog 8 #[.slice A l.length c, .int .i64 m, .int .i64 s, .agg #[.slice D p.length d, .int .i64 q]] w fun e w' => e = .returned (.bool true) ∧ Below w.heap.size w w' :=
  law_tback' A l c m s D p d q w _ _ rfl rfl hl.1 hl.2.2 h1 h2 hp.1 hp.2.1 hp.2.2 h3 h4
end Go.Proofs.Ytpfhaalbikgmnaa
