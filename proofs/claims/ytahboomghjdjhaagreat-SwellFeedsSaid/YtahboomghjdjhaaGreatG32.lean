/-
  Walks: a reader's lengths.
-/
import Derived.Outline
import Derived.Test.YtahboomghjdjhaaGreatG26
import Derived.Test.YtahboomghjdjhaaGreatG31
namespace Go.Proofs.YtahboomghjdjhaaGreat
open Go.RowKit

/-! ### append to a slice of the call's own, where another block has turned too -/
section
variable {P : Program} {w : World}
theorem run_grow_own {t e : TypeId} {size bytes : Nat} (E : Elem P t e size bytes) (ty : TypeId) {base : Nat} {A : Option Addr} {n c : Nat} {xs : List Value} (hs : w.ownsRow base e size (.slice A n c) n xs) (hbase : base ≤ w.heap.size)
    {B : Option Addr} {m : Nat} (d : Nat) {news : List Value} (hr : Rd w B news) (hlen : news.length = m * size) (h1 : ∀ u ∈ news, u.oneCell' = true) (h63 : n + m ≤ 1000000000) (hby : bytes ≤ 1000) :
    ∃ A' c' w', (Builtin.append_ #[t, t] ty #[.slice A n c, .slice B m d]).run P w = .ok (.slice A' (n + m) c') w' ∧ w'.ownsRow base e size (.slice A' (n + m) c') (n + m) (xs ++ news) ∧ w.grownBy w' (Value.slice A n c).ownBlock := by
  obtain ⟨i, z, hi, hz, hsize, hbytes, hzs⟩ := E.inf
  have hm : B = none → m = 0 := fun h => by
    have h0 := hr.2 h
    rw [h0] at hlen
    have := E.pos
    rcases Nat.eq_zero_or_pos m with h | h
    · exact h
    · have := Nat.mul_pos h E.pos; simp at hlen; omega
  have hb2 : (n + m) * bytes ≤ 140737488355328 := Nat.le_trans (Nat.mul_le_mul h63 hby) (by omega)
  obtain ⟨v', w', hrun, h2, h3, _⟩ := run_app (P := P) w base t ty e i z size bytes E.und hi hz hsize hbytes hzs E.pos (.slice A n c) n xs hs B m d news hlen hr.1 hm h1 (by simp only [maxLen]; omega) hb2 hbase
  obtain ⟨A', c', rfl⟩ := own_slice h2
  exact ⟨A', c', w', hrun, h2, h3⟩
theorem grow_own {ops : Array Oper} {rest : List Oper} {o : Oper} {a : Act} {Q : Exit → Act → World → Prop} {t e : TypeId} {size bytes : Nat} (E : Elem P t e size bytes) (hgd : o.guard = none) (s x : Operand)
    (ho : o.op = .call { callee := .builtin .append, args := #[s, x], argTypes := #[t, t] })
    {base : Nat} {A : Option Addr} {n c : Nat} {xs : List Value} (hs : a.eval s = .slice A n c) (hown : w.ownsRow base e size (.slice A n c) n xs) (hbase : base ≤ w.heap.size)
    {B : Option Addr} {m d : Nat} {news : List Value} (hx : a.eval x = .slice B m d) (hr : Rd w B news) (hlen : news.length = m * size) (h1 : ∀ u ∈ news, u.oneCell' = true)
    (k : Nat) (hk : n + m = k) (ys : List Value) (hys : xs ++ news = ys) (h63 : k ≤ 1000000000) (hby : bytes ≤ 1000)
    (h : ∀ A' c' w', w'.ownsRow base e size (.slice A' k c') k ys → w.grownBy w' (Value.slice A n c).ownBlock → wpList P ops Q rest (a.put o.dst (.slice A' k c')) w') : wpList P ops Q (o :: rest) a w :=
  wpList_plain hgd fun _ hK => by
    subst hk hys
    obtain ⟨A', c', w', hrun, h2, h3⟩ := run_grow_own E o.type hown hbase d hr hlen h1 h63 hby
    unfold Oper.wp execOp
    simp only [ho, resolve, invoke, builtin, Sem.run_bind, Sem.run_pure, Result.andThen_ok, List.map_toArray, List.map_cons, List.map_nil, hs, hx, hrun]
    exact hK _ _ (h A' c' w' h2 h3)
end
theorem RdrAt.row {W w w' : World} {g : Nat} {B : Option Addr} {n c : Nat} {b : List Nat} {s : Rs} (h : RdrAt W w g B n c b s) {row : Option Nat} (hg : w.grownBy w' row) (hne : row ≠ some g) (hge : ∀ j, row = some j → W.heap.size ≤ j) : RdrAt W w' g B n c b s :=
  ⟨h.bel.grown hg h.bel.size hge, h.ge, by obtain ⟨a, hk, h2⟩ := h.blk; exact ⟨a, hk.grown hg (Ne.symm hne), h2⟩, h.rd, h.byte, h.len, h.max, h.ne, h.in_⟩
theorem only_row {a w w' : World} {g : Nat} {row : Option Nat} (h : a.grownBy w (some g)) (k : w.grownBy w' row) (hr : ∀ j, row = some j → a.heap.size ≤ j) : a.grownBy w' (some g) := grown_trans' h k (.inr hr)

/-! ### The plain law -/
theorem rd_nz (l b : List Nat) : ∀ j n v a, (rdT l b j n v a).2.2 = 0 → nth l (rdT l b j n v a).1 ≠ 0
  | 0, _, _, _ => fun h => by simp [rdT] at h
  | j + 1, n, v, a => by
    cases hh : hitF l n v with
    | some i =>
      rw [rd_hit hh]
      intro _
      have h2 := List.find?_some hh
      unfold hitB at h2
      have h4 := of_decide_eq_true h2
      simp only
      omega
    | none =>
      cases hm : moreN l n v l.length with
      | false => rw [rd_code hh hm]; intro h; simp at h
      | true =>
        by_cases ha : a < 8 * b.length
        · rw [rd_go hh hm ha]; exact rd_nz l b j _ _ _
        · rw [rd_end hh hm (by omega)]; intro h; simp at h
theorem syP_in {l b : List Nat} {a s n : Nat} (h : syP l b a = .ok (s, n)) : s < l.length := by
  have h1 := syP_inv h
  have := rd_nz (padL l) b 16 0 0 a
  rw [h1] at this
  have h2 := this rfl
  rw [padL_nth] at h2
  rcases Nat.lt_or_ge s l.length with h3 | h3
  · exact h3
  · exact absurd (by unfold nth; rw [List.getElem?_eq_none h3]; rfl) h2
theorem tkP_inv {n : Nat} {b : List Nat} {a x m : Nat} (h : tkP n b a = .ok (x, m)) : a + n ≤ 8 * b.length ∧ x = numOf b a n ∧ m = a + n := by
  unfold tkP at h
  split at h
  · cases h
  · cases h; exact ⟨by omega, rfl, rfl⟩
theorem padL_idem {l : List Nat} (h : l.length ≤ 320) : padL (padL l) = padL l := padL_full (padL_length h)
theorem syP_pad {l : List Nat} (h : l.length ≤ 320) : syP (padL l) = syP l := by funext b a; unfold syP; rw [padL_idem h]

/-- Runs under way: what they tell so far. -/
def RunsTo (N : Nat) (rs : List (Int × Int)) (out : List Nat) : Prop := ∀ l, strF N (rs ++ l) [] = strF N l out
theorem RunsTo.nil (N : Nat) : RunsTo N [] [] := fun _ => rfl
theorem RunsTo.snoc {N : Nat} {rs : List (Int × Int)} {out : List Nat} (h : RunsTo N rs out) {r : Int × Int} (hr : runsputE N r out = 0) : RunsTo N (rs ++ [r]) (putR r out) := fun l => by
  rw [List.append_assoc, List.singleton_append, h, strF, if_pos hr]
theorem RunsTo.end_ {N : Nat} {rs : List (Int × Int)} {out : List Nat} (h : RunsTo N rs out) (hN : out.length = N) : strF N rs [] = (out, 0) := by
  have := h []
  rw [List.append_nil] at this
  rw [this, strF, if_pos hN]
theorem lgput_ok {N s x : Nat} {out : List Nat} (hs : s < 19) (hx : x < 2 ^ symBits s) (h : ¬ (s = 16 ∧ out = [] ∨ N < out.length + timesOf ((s : Int), (x : Int)))) : runsputE N ((s : Int), (x : Int)) out = 0 := by
  unfold runsputE
  have h1 : runOk ((s : Int), (x : Int)) = true := by
    unfold runOk
    refine decide_eq_true ⟨by simp only; omega, by simp only; omega, by simp only; omega, ?_⟩
    simp only
    exact_mod_cast hx
  rw [if_pos h1, if_neg]
  rintro (⟨h2, h3⟩ | h2)
  · exact h (.inl ⟨by simp only at h2; omega, h3⟩)
  · exact h (.inr h2)

/-- What the lengths are, where the reading comes to its end. -/
def LgRes (W w w' : World) (g : Nat) (B : Option Addr) (n c : Nat) (b : List Nat) (s : Rs) (p : Pa (List Nat)) (r : Ending) : Prop :=
  ∃ C d x, r = .returned (.slice C x.length d) ∧ RdrAt W w' g B n c b (rsGo s p b) ∧ w.grownBy w' (some g) ∧ w'.ownsRow w.heap.size 5 1 (.slice C x.length d) x.length (u8s x) ∧ ∀ a y m, s = .ok a → p b a = .ok (y, m) → x = y

def lgR (N : Nat) (row b : List Nat) : Rs → Except Nat (List Nat × Nat)
  | .error e => .error e
  | .ok a => lgP N row N [] b a
/-- Where the runs' loop stands. -/
def LgAt (N : Nat) (row b : List Nat) (R : Except Nat (List Nat × Nat)) (rs : List (Int × Int)) (M : Nat) : Rs → Prop
  | .error e => R = .error e
  | .ok a => ∃ out f, M = out.length ∧ RunsTo N rs out ∧ (rs = [] ↔ out = []) ∧ N ≤ out.length + f ∧ out.length ≤ N ∧ R = lgP N row f out b a

/-- What a round's check asks. -/
def lgU (N M S X : Nat) (rs : List (Int × Int)) : Bool := decide (M + timesOf ((S : Int), (X : Int)) ≤ N ∧ (S ≠ 16 ∨ rs ≠ []))
theorem lg_bounds {row b : List Nat} (hrow : row.length = 19) {a S X : Nat} (hS : rsV (.ok a) (syP row) b = S) (hX : rsV (rsGo (.ok a) (syP row) b) (tkP (symBits S)) b = X) : S < 19 ∧ X < 2 ^ symBits S ∧ X < 128 := by
  have h7 := Nat.pow_le_pow_right (n := 2) (by omega) (symBits_le (S : Int))
  have hp : 0 < 2 ^ symBits (S : Int) := Nat.two_pow_pos _
  have hSS : S < 19 := by
    cases hs : syP row b a with
    | error e => rw [rsV_err hs] at hS; omega
    | ok r =>
      obtain ⟨y, k⟩ := r
      rw [rsV_ok hs] at hS
      have := syP_in hs
      omega
  have hXX : X < 2 ^ symBits S := by
    cases hg : rsGo (.ok a) (syP row) b with
    | error e => rw [hg] at hX; have : X = 0 := hX.symm; omega
    | ok k =>
      rw [hg] at hX
      cases ht : tkP (symBits S) b k with
      | error e => rw [rsV_err ht] at hX; omega
      | ok r =>
        obtain ⟨y, q⟩ := r
        rw [rsV_ok ht] at hX
        obtain ⟨_, h2, _⟩ := tkP_inv ht
        rw [← hX, h2]
        exact numOf_lt b k _
  exact ⟨hSS, hXX, by omega⟩
theorem lg_stop {N : Nat} {row b : List Nat} {R : Except Nat (List Nat × Nat)} {rs : List (Int × Int)} {M : Nat} {st s : Rs} {x : List Nat} {E : Nat} (h : LgAt N row b R rs M st) (hR : R = lgR N row b s) (hs : ∀ a, st = .ok a → N ≤ M ∧ ∃ a0, s = .ok a0) (hN : N ≤ 320) (hx : strL rs (N : Int) = (x, E)) :
    rsGo s (lgP N row N []) b = st ∧ rsFail st ((E : Int) == 0) 132 = st ∧ ∀ a y m, s = .ok a → lgP N row N [] b a = .ok (y, m) → x = y := by
  cases st with
  | error e =>
    have h : R = .error e := h
    rw [hR] at h
    refine ⟨?_, rfl, fun a y m hsa hy => ?_⟩
    · cases s with
      | error e0 => unfold lgR at h; injection h with h; subst h; rfl
      | ok a0 => exact rsGo_err h
    · subst hsa
      have h : lgP N row N [] b a = .error e := h
      rw [h] at hy; cases hy
  | ok a =>
    obtain ⟨hNM, a0, rfl⟩ := hs a rfl
    obtain ⟨out, f, h1, h2, h3, h4, h5, h6⟩ := h
    have hlen : out.length = N := by omega
    have hp : lgP N row f out = paOk out := by
      cases f with
      | zero => rfl
      | succ f => rw [lgP, if_pos (by omega)]
    rw [hp] at h6
    rw [hR] at h6
    have h6 : lgP N row N [] b a0 = .ok (out, a) := h6
    have hst : strL rs (N : Int) = (out, 0) := by unfold strL; rw [if_neg (by omega), Int.toNat_natCast, h2.end_ hlen]
    rw [hst] at hx
    injection hx with hx1 hx2
    subst hx1; subst hx2
    refine ⟨rsGo_ok h6, rfl, fun a y m hsa hy => ?_⟩
    cases hsa
    rw [h6] at hy
    cases hy; rfl
theorem lg_step {N : Nat} {row b : List Nat} {R : Except Nat (List Nat × Nat)} {rs : List (Int × Int)} {M a S X : Nat} (h : LgAt N row b R rs M (.ok a)) (hM : M < N) (hrow : row.length = 19)
    (hS : rsV (.ok a) (syP row) b = S) (hX : rsV (rsGo (.ok a) (syP row) b) (tkP (symBits S)) b = X) :
    LgAt N row b R (rs ++ [((S : Int), (X : Int))]) (M + timesOf ((S : Int), (X : Int))) (rsFail (rsGo (rsGo (.ok a) (syP row) b) (tkP (symBits S)) b) (lgU N M S X rs) 132) := by
  obtain ⟨hS19, hX2, _⟩ := lg_bounds hrow hS hX
  obtain ⟨out, f, h1, h2, h3, h4, h5, h6⟩ := h
  obtain ⟨f', rfl⟩ : ∃ f', f = f' + 1 := ⟨f - 1, by omega⟩
  rw [lgP, if_neg (by omega)] at h6
  cases hs : syP row b a with
  | error e =>
    rw [rsGo_err hs]
    rw [paBind_no hs] at h6
    exact h6
  | ok r =>
    obtain ⟨y, k⟩ := r
    rw [rsGo_ok hs]
    rw [paBind_ok hs] at h6
    rw [rsV_ok hs] at hS
    rw [rsGo_ok hs] at hX
    subst hS
    cases ht : tkP (symBits y) b k with
    | error e =>
      rw [rsGo_err ht]
      rw [paBind_no ht] at h6
      exact h6
    | ok r2 =>
      obtain ⟨z, q⟩ := r2
      rw [rsGo_ok ht]
      rw [paBind_ok ht] at h6
      rw [rsV_ok ht] at hX
      subst hX
      by_cases hc : y = 16 ∧ out = [] ∨ N < out.length + timesOf ((y : Int), (z : Int))
      · rw [if_pos hc] at h6
        have : lgU N M y z rs = false := by
          unfold lgU
          refine decide_eq_false fun ⟨q1, q2⟩ => ?_
          rcases hc with ⟨c1, c2⟩ | c1
          · rcases q2 with q2 | q2
            · exact q2 c1
            · exact q2 (h3.2 c2)
          · omega
        rw [this]
        exact h6
      · rw [if_neg hc] at h6
        have hu : lgU N M y z rs = true := by
          unfold lgU
          refine decide_eq_true ⟨?_, ?_⟩
          · rcases Nat.lt_or_ge N (M + timesOf ((y : Int), (z : Int))) with c | c
            · exact absurd (.inr (by omega)) hc
            · exact c
          · by_cases c16 : y = 16
            · right
              intro e
              exact hc (.inl ⟨c16, h3.1 e⟩)
            · left; exact c16
        rw [hu]
        have hpl := putR_length ((y : Int), (z : Int)) out
        have hpos := timesOf_pos ((y : Int), (z : Int))
        refine ⟨putR ((y : Int), (z : Int)) out, f', by omega, h2.snoc (lgput_ok hS19 hX2 hc), ⟨fun e => by simp at e, fun e => by rw [e] at hpl; simp at hpl; omega⟩, by omega, ?_, h6⟩
        rcases Nat.lt_or_ge N (out.length + timesOf ((y : Int), (z : Int))) with c | c
        · exact absurd (.inr c) hc
        · omega

set_option maxRecDepth 100000 in
set_option maxHeartbeats 16000000 in
theorem rdlens_any (W w : World) (g : Nat) (B : Option Addr) (n c : Nat) (b : List Nat) (s : Rs) (f : Nat → Int) (A : Option Addr) (m d : Nat) (xs : List Int) (row : List Nat) (N : Nat) (hx : ∀ wx, w.grownBy wx (some g) → Rd wx A (ints xs)) (hm : m = xs.length) (hd : m ≤ d) (hm1 : m ≤ 1001) (hrow : row.length = 19)
    (hl : ∀ a, s = .ok a → chkT f xs = some (padL row)) (hN1 : 1 ≤ N) (hN : N ≤ 320) (h : RdrAt W w g B n c b s) :
    Calls Tryz.prog 101 #[.pointer (some ⟨g, 0, none⟩), .agg (cellsOf 17 (treeH f (.slice A m d))), .int .i64 (N : Int)] w fun r w' => LgRes W w w' g B n c b s (lgP N row N []) r := by
  have hbw : Below w.heap.size w (w.alloc (.cells (cellsOf 17 (treeH f (.slice A m d))) 26)) := (Below.refl _ _).alloc (Nat.le_refl _) _
  have ka : Arr (w.alloc (.cells (cellsOf 17 (treeH f (.slice A m d))) 26)) w.heap.size 26 17 (treeH f (.slice A m d)) := Blk.new _ _ _
  have h1 := h.below hbw
  have hglt := h.lt
  have hWle := h.bel.size
  have g1 := only_of_below (row := some g) hbw
  have HS := Lib.hid fun wx (hxx : Rd wx A (ints xs)) a (hsa : ∃ a0, s = .ok a0) (hr : RdrAt W wx g B n c b (.ok a)) => show Calls Tryz.prog 79 #[.pointer (some ⟨g, 0, none⟩), .agg (cellsOf 17 (treeH f (.slice A m d)))] wx (fun r w' => RdRes W wx w' g B n c b r (rsV (.ok a) (syP row) b) (rsGo (.ok a) (syP row) b)) from by
    obtain ⟨a0, ha0⟩ := hsa
    have := rsymbol_any W wx g B n c b (.ok a) f A m d xs (padL row) hxx hm hd hm1 (hl a0 ha0) hr
    rw [syP_pad (by omega)] at this
    exact this
  have HT := Lib.hid fun wx k s' (hk : k ≤ 32) hr => rtakeN_any W wx g B n c b s' k hk hr
  have HF := Lib.hid fun wx u s' hr => rfail_any W wx g B n c b s' u 132 (fun _ => by omega) hr
  obtain ⟨R, hR⟩ : ∃ R : Except Nat (List Nat × Nat), R = lgR N row b s := ⟨_, rfl⟩
  have hst : LgAt N row b R [] 0 s := by
    cases s with
    | error e => exact hR
    | ok a => exact ⟨[], N, rfl, RunsTo.nil N, by simp, by simp, by simp, hR⟩
  have HR := Lib.hid hR
  have HM := Lib.hid (And.intro hm hl)
  clear hm hl hR
  go_enter Tryz.func101, Tryz.ntmps101
  go_upto_region 1 with (fail)
  change Code.wp _ _ _ _ (w.alloc (.cells (cellsOf 17 (treeH f (.slice A m d))) 26))
  generalize hW1 : w.alloc (.cells (cellsOf 17 (treeH f (.slice A m d))) 26) = W1 at *
  clear hW1
  go_wp2_with fail
  go_loopg [7, 8] (N + 1) (fun gk v7 v8 wr => ∃ rs C d2 M st, v7 = .slice C rs.length d2 ∧ v8 = .int .i64 ((M : Nat) : Int) ∧ (∀ a, st = .ok a → N - M + 1 ≤ gk ∧ ∃ a0, s = .ok a0) ∧ M ≤ 1000 ∧ rs.length ≤ M ∧ Hid (LgAt N row b R rs M st) ∧ (∀ r ∈ rs, -9223372036854775808 ≤ r.1 ∧ r.1 ≤ 9223372036854775807 ∧ -9223372036854775808 ≤ r.2 ∧ r.2 ≤ 9223372036854775807) ∧
    RdrAt W wr g B n c b st ∧ w.grownBy wr (some g) ∧ wr.ownsRow w.heap.size 155 2 (.slice C rs.length d2) rs.length (runV rs) ∧ Arr wr w.heap.size 26 17 (treeH f (.slice A m d)))
  case atStart => exact ⟨[], none, 0, 0, s, rfl, rfl, fun a ha => ⟨by omega, a, ha⟩, by omega, by simp, Lib.hid hst, by simp, h1, g1, World.ownsRow_nil _ _ _ _, ka⟩
  case round =>
    clear g1 h1 ka hst
    obtain ⟨rs, C, d2, M, st, rfl, rfl, hgk, hM, hrs, hat, hrg, hr, hg, ho, ka⟩ := hrel
    have HGK := Lib.hid hgk
    have HRG := Lib.hid hrg
    clear hgk hrg
    obtain ⟨av, hbk, hav⟩ := hr.blk
    have c2 : wr.cell? ⟨g, 2, none⟩ = some (.int .i64 (rsE st : Int)) := hbk.cell 2
    have hWr : w.heap.size ≤ wr.heap.size := hg.size
    by_cases hgo : M < N ∧ ∃ a, st = .ok a
    · obtain ⟨hMN, a, rfl⟩ := hgo
      replace c2 : wr.cell? ⟨g, 2, none⟩ = some (.int .i64 0) := c2
      have z1 : decide ((M : Int) < (N : Int)) = true := decide_eq_true (by omega)
      obtain ⟨hgk, hsa⟩ := HGK.out a rfl
      have hS := Lib.hid (HS.out wr (hx wr hg) a hsa hr)
      obtain ⟨S, hSe⟩ : ∃ S, rsV (.ok a) (syP row) b = S := ⟨_, rfl⟩
      obtain ⟨s1, hs1⟩ : ∃ s1, rsGo (.ok a) (syP row) b = s1 := ⟨_, rfl⟩
      obtain ⟨X, hXe⟩ : ∃ X, rsV s1 (tkP (symBits S)) b = X := ⟨_, rfl⟩
      obtain ⟨s2, hs2⟩ : ∃ s2, rsGo s1 (tkP (symBits S)) b = s2 := ⟨_, rfl⟩
      obtain ⟨u, hu⟩ : ∃ u, lgU N M S X rs = u := ⟨_, rfl⟩
      obtain ⟨q1, q2, q3⟩ := lg_bounds (X := X) hrow hSe (by rw [hs1]; exact hXe)
      have hstep := lg_step (X := X) hat.out hMN hrow hSe (by rw [hs1]; exact hXe)
      rw [hs1, hs2, hu] at hstep
      rw [hs1, hSe] at hS
      obtain ⟨k, hk⟩ : ∃ k, symBits (S : Int) = k := ⟨_, rfl⟩
      have hk7 : k ≤ 7 := by rw [← hk]; exact symBits_le _
      have HB := Lib.hid fun wx => show Calls Tryz.prog 108 #[.int .i64 (S : Int)] wx (fun e w' => e = .returned (.tuple #[.int .i64 (k : Int), .int .i64 0]) ∧ wx = w') from by
        have := bits_any (S : Int) wx (by omega) (by omega)
        rw [hk] at this
        have h0 : symE (S : Int) = 0 := by unfold symE; rw [if_neg (by omega)]
        rw [h0] at this
        exact this
      have HT2 := Lib.hid fun wx hr => HT.out wx k s1 (by omega) hr
      rw [hk] at hXe hs2
      rw [hXe, hs2] at HT2
      obtain ⟨t, ht⟩ : ∃ t, timesOf ((S : Int), (X : Int)) = t := ⟨_, rfl⟩
      rw [ht] at hstep
      have htt : (S = 18 ∧ t = 11 + X) ∨ (16 ≤ S ∧ S ≤ 17 ∧ t = 3 + X) ∨ (S < 16 ∧ t = 1) := by
        rw [← ht]; unfold timesOf; simp only
        by_cases e1 : S = 18
        · left; subst e1; exact ⟨rfl, by simp; omega⟩
        · by_cases e2 : 16 ≤ S
          · right; left; exact ⟨e2, by omega, by rw [if_pos (by omega)]; omega⟩
          · right; right; exact ⟨by omega, by rw [if_neg (by omega), if_neg (by omega)]⟩
      have HU := Lib.hid hu
      have HST := Lib.hid hstep
      have HTT := Lib.hid ht
      have HF2 := Lib.hid fun wx hr => HF.out wx u s2 hr
      clear hu hstep ht hk hXe hs2 hs1 hSe HS HT HF hat hbk hav
      go_upto_region 7 with (first
        | (refine load_arr rfl 26 (.tmp 4) rfl rfl ka tree_under rfl tree_size ?_)
        | (go_at_call 79; refine hS.out.mono ?_; rintro e w1 ⟨rfl, hr1, hg1⟩)
        | (go_at_call 108; refine (HB.out _).mono ?_; rintro e w2 ⟨rfl, rfl⟩)
        | (go_at_call 74; refine (HT2.out _ hr1).mono ?_; rintro e w2 ⟨rfl, hr2, hg2⟩))
      have hW2 : w.heap.size ≤ w2.heap.size := Nat.le_trans hWr (Nat.le_trans hg1.size hg2.size)
      have hge0 : W.heap.size ≤ w.heap.size := hWle
      have ho2 := hr1.own (hr.own ho (by decide) hg1) (by decide) hg2
      have ka2 : Arr w2 w.heap.size 26 17 (treeH f (.slice A m d)) := Blk.grown (Blk.grown ka hg1 (by intro e; injection e with e; omega)) hg2 (by intro e; injection e with e; omega)
      have hgw2 := only_trans (only_trans hg hg1) hg2
      have hr3 := hr2.alloc (.cells #[.int .i64 (S : Int), .int .i64 (X : Int)] 155)
      have ho3' := ho2.alloc (.cells #[.int .i64 (S : Int), .int .i64 (X : Int)] 155)
      have kx : Blk (w2.alloc (.cells #[.int .i64 (S : Int), .int .i64 (X : Int)] 155)) w2.heap.size 155 #[.int .i64 (S : Int), .int .i64 (X : Int)] := Blk.new _ _ _
      have ka3 := Arr.alloc ka2 (.cells #[.int .i64 (S : Int), .int .i64 (X : Int)] 155)
      have hgw3 := only_trans hgw2 (only_of_below (row := some g) (((Below.refl w2.heap.size w2).alloc (Nat.le_refl _) (.cells #[.int .i64 (S : Int), .int .i64 (X : Int)] 155))))
      have hW3 : w.heap.size ≤ (w2.alloc (.cells #[.int .i64 (S : Int), .int .i64 (X : Int)] 155)).heap.size := by simp; omega
      have hxne : (Value.slice C rs.length d2).ownBlock ≠ some w2.heap.size := fun e => by
        have := (ho2.lt _ e).2
        omega
      clear hr1 hr2 hr ho hg1 hg2 hg ho2 ka ka2 hgw2 hS HT2 HB c2
      generalize w2.alloc (.cells #[.int .i64 (S : Int), .int .i64 (X : Int)] 155) = W3 at *
      have cx := Blk.cells kx
      have ylt := Blk.lt kx
      have hrow1 := own_row_ge ho3'
      have hW3w : W.heap.size ≤ W3.heap.size := Nat.le_trans hge0 hW3
      go_cut [7] from 38 to 41 (fun v7 wx => ∃ C4 d4, v7 = .slice C4 (rs.length + 1) d4 ∧ RdrAt W wx g B n c b s2 ∧ w.grownBy wx (some g) ∧ wx.ownsRow w.heap.size 155 2 (.slice C4 (rs.length + 1) d4) (rs.length + 1) (runV (rs ++ [((S : Int), (X : Int))])) ∧ Arr wx w.heap.size 26 17 (treeH f (.slice A m d)) ∧ Blk wx w2.heap.size 155 #[.int .i64 (S : Int), .int .i64 (X : Int)])
      case first =>
        go_wp2_with (at_builtin; refine grow_own elem_run rfl (.tmp 38) (.tmp 40) rfl rfl (ho3'.alloc _) (by simp; omega) rfl (Rd.new' _ _ _ (runV [((S : Int), (X : Int))]) _ rfl rfl) rfl (runV_one _) (rs.length + 1) rfl (runV (rs ++ [((S : Int), (X : Int))])) (runV_append _ _).symm (by omega) (by omega) ?_; intro C4 d4 w4 ho4 hg4)
        go_meet
        case rel =>
          have hr3' := hr3.alloc (.cells #[.int .i64 (S : Int), .int .i64 (X : Int)] 155)
          have ho3a := ho3'.alloc (.cells #[.int .i64 (S : Int), .int .i64 (X : Int)] 155)
          have ka3' := Arr.alloc ka3 (.cells #[.int .i64 (S : Int), .int .i64 (X : Int)] 155)
          have kx' := Blk.alloc kx (.cells #[.int .i64 (S : Int), .int .i64 (X : Int)] 155)
          obtain ⟨a0, hk0, _⟩ := hr3'.blk
          have n1 := own_blk_ne ho3a hk0 (by decide)
          have n2 := own_blk_ne ho3a ka3' (by decide)
          refine ⟨C4, d4, rfl, hr3'.row hg4 n1 (fun j e => Nat.le_trans hge0 (hrow1 j e)), ?_, ho4, Blk.grown ka3' hg4 (Ne.symm n2), Blk.grown kx' hg4 (Ne.symm hxne)⟩
          exact only_row (only_trans hgw3 (only_of_below ((Below.refl _ _).alloc (Nat.le_refl _) _))) hg4 hrow1
      case rest =>
        clear hr3 ho3' ka3 kx cx ylt hrow1 hgw3 hW3 hW3w hxne
        obtain ⟨C4, d4, rfl, hr4, hg4, ho4, ka4, kx4⟩ := hcut
        have cx4 := Blk.cells kx4
        have ylt := Blk.lt kx4
        obtain ⟨L1, hL1⟩ : ∃ L1, rs.length + 1 = L1 := ⟨_, rfl⟩
        rw [hL1] at ho4
        rw [hL1]
        have HL1 := Lib.hid hL1
        clear hL1
        rcases htt with ⟨h18, ht⟩ | ⟨h16, h17, ht⟩ | ⟨hlt, ht⟩
        · have e18 : (S : Int) = 18 := by omega
          have HT_ := Lib.hid ht
          by_cases hle : M + (11 + X) ≤ N
          · clear h18 ht
            have hu2 : u = true := by rw [← HU.out]; unfold lgU; rw [HTT.out]; exact decide_eq_true ⟨by have := HT_.out; omega, .inl (by omega)⟩
            subst hu2
            go_wp2_with (go_at_call 75; refine (HF2.out _ hr4).mono ?_; rintro e w5 ⟨rfl, hr5, hg5⟩)
            go_roundg (gk - 1)
            case measure => omega
            case rel =>
              have el : (rs ++ [((S : Int), (X : Int))]).length = L1 := by rw [← HL1.out]; simp
              have hT := HT_.out
              have hL := HL1.out
              refine ⟨rs ++ [((S : Int), (X : Int))], C4, d4, M + t, rsFail s2 true 132, by rw [el], ?_, ?_, by omega, by omega, HST, ?_, hr5, only_trans hg4 hg5, by rw [el]; exact hr4.own ho4 (by decide) hg5, Blk.grown ka4 hg5 (by intro e; injection e with e; omega)⟩
              · congr 1; omega
              · intro a' ha'
                exact ⟨by omega, hsa⟩
              · intro r hr
                rcases List.mem_append.1 hr with hr | hr
                · exact HRG.out r hr
                · rw [List.mem_singleton.1 hr]; exact ⟨by omega, by omega, by omega, by omega⟩
          · clear h18 ht
            have hu2 : u = false := by rw [← HU.out]; unfold lgU; rw [HTT.out]; exact decide_eq_false fun ⟨z, _⟩ => by have := HT_.out; omega
            subst hu2
            go_wp2_with (go_at_call 75; refine (HF2.out _ hr4).mono ?_; rintro e w5 ⟨rfl, hr5, hg5⟩)
            go_roundg (gk - 1)
            case measure => omega
            case rel =>
              have el : (rs ++ [((S : Int), (X : Int))]).length = L1 := by rw [← HL1.out]; simp
              have hT := HT_.out
              have hL := HL1.out
              refine ⟨rs ++ [((S : Int), (X : Int))], C4, d4, M + t, rsFail s2 false 132, by rw [el], ?_, ?_, by omega, by omega, HST, ?_, hr5, only_trans hg4 hg5, by rw [el]; exact hr4.own ho4 (by decide) hg5, Blk.grown ka4 hg5 (by intro e; injection e with e; omega)⟩
              · congr 1; omega
              · intro a' ha'
                exact ⟨by omega, hsa⟩
              · intro r hr
                rcases List.mem_append.1 hr with hr | hr
                · exact HRG.out r hr
                · rw [List.mem_singleton.1 hr]; exact ⟨by omega, by omega, by omega, by omega⟩
        · have hs18 : ¬ ((S : Int) = 18) := by omega
          have HT_ := Lib.hid ht
          by_cases hle : M + (3 + X) ≤ N
          · by_cases e16 : (S : Int) = 16
            · by_cases hrs0 : rs = []
              · have hl0 : decide ((L1 : Int) > 1) = false := decide_eq_false (by have := HL1.out; rw [hrs0] at this; simp at this; omega)
                have HRS := Lib.hid hrs0
                clear ht h17 hrs0
                have hu2 : u = false := by rw [← HU.out]; unfold lgU; rw [HTT.out]; exact decide_eq_false fun ⟨_, z⟩ => by rcases z with z | z; omega; exact z HRS.out
                subst hu2
                go_wp2_with (go_at_call 75; refine (HF2.out _ hr4).mono ?_; rintro e w5 ⟨rfl, hr5, hg5⟩)
                go_roundg (gk - 1)
                case measure => omega
                case rel =>
                  have el : (rs ++ [((S : Int), (X : Int))]).length = L1 := by rw [← HL1.out]; simp
                  have hT := HT_.out
                  have hL := HL1.out
                  refine ⟨rs ++ [((S : Int), (X : Int))], C4, d4, M + t, rsFail s2 false 132, by rw [el], ?_, ?_, by omega, by omega, HST, ?_, hr5, only_trans hg4 hg5, by rw [el]; exact hr4.own ho4 (by decide) hg5, Blk.grown ka4 hg5 (by intro e; injection e with e; omega)⟩
                  · congr 1; omega
                  · intro a' ha'
                    exact ⟨by omega, hsa⟩
                  · intro r hr
                    rcases List.mem_append.1 hr with hr | hr
                    · exact HRG.out r hr
                    · rw [List.mem_singleton.1 hr]; exact ⟨by omega, by omega, by omega, by omega⟩
              · have hl0 : decide ((L1 : Int) > 1) = true := decide_eq_true (by have := HL1.out; have := List.length_pos_iff.2 hrs0; omega)
                clear ht h17
                have hu2 : u = true := by rw [← HU.out]; unfold lgU; rw [HTT.out]; exact decide_eq_true ⟨by have := HT_.out; omega, .inr hrs0⟩
                subst hu2
                go_wp2_with (go_at_call 75; refine (HF2.out _ hr4).mono ?_; rintro e w5 ⟨rfl, hr5, hg5⟩)
                go_roundg (gk - 1)
                case measure => omega
                case rel =>
                  have el : (rs ++ [((S : Int), (X : Int))]).length = L1 := by rw [← HL1.out]; simp
                  have hT := HT_.out
                  have hL := HL1.out
                  refine ⟨rs ++ [((S : Int), (X : Int))], C4, d4, M + t, rsFail s2 true 132, by rw [el], ?_, ?_, by omega, by omega, HST, ?_, hr5, only_trans hg4 hg5, by rw [el]; exact hr4.own ho4 (by decide) hg5, Blk.grown ka4 hg5 (by intro e; injection e with e; omega)⟩
                  · congr 1; omega
                  · intro a' ha'
                    exact ⟨by omega, hsa⟩
                  · intro r hr
                    rcases List.mem_append.1 hr with hr | hr
                    · exact HRG.out r hr
                    · rw [List.mem_singleton.1 hr]; exact ⟨by omega, by omega, by omega, by omega⟩
            · clear ht
              have hu2 : u = true := by rw [← HU.out]; unfold lgU; rw [HTT.out]; exact decide_eq_true ⟨by have := HT_.out; omega, .inl (by omega)⟩
              subst hu2
              go_wp2_with (go_at_call 75; refine (HF2.out _ hr4).mono ?_; rintro e w5 ⟨rfl, hr5, hg5⟩)
              go_roundg (gk - 1)
              case measure => omega
              case rel =>
                have el : (rs ++ [((S : Int), (X : Int))]).length = L1 := by rw [← HL1.out]; simp
                have hT := HT_.out
                have hL := HL1.out
                refine ⟨rs ++ [((S : Int), (X : Int))], C4, d4, M + t, rsFail s2 true 132, by rw [el], ?_, ?_, by omega, by omega, HST, ?_, hr5, only_trans hg4 hg5, by rw [el]; exact hr4.own ho4 (by decide) hg5, Blk.grown ka4 hg5 (by intro e; injection e with e; omega)⟩
                · congr 1; omega
                · intro a' ha'
                  exact ⟨by omega, hsa⟩
                · intro r hr
                  rcases List.mem_append.1 hr with hr | hr
                  · exact HRG.out r hr
                  · rw [List.mem_singleton.1 hr]; exact ⟨by omega, by omega, by omega, by omega⟩
          · by_cases e16 : (S : Int) = 16
            · clear ht h17
              have hu2 : u = false := by rw [← HU.out]; unfold lgU; rw [HTT.out]; exact decide_eq_false fun ⟨z, _⟩ => by have := HT_.out; omega
              subst hu2
              go_wp2_with (go_at_call 75; refine (HF2.out _ hr4).mono ?_; rintro e w5 ⟨rfl, hr5, hg5⟩)
              go_roundg (gk - 1)
              case measure => omega
              case rel =>
                have el : (rs ++ [((S : Int), (X : Int))]).length = L1 := by rw [← HL1.out]; simp
                have hT := HT_.out
                have hL := HL1.out
                refine ⟨rs ++ [((S : Int), (X : Int))], C4, d4, M + t, rsFail s2 false 132, by rw [el], ?_, ?_, by omega, by omega, HST, ?_, hr5, only_trans hg4 hg5, by rw [el]; exact hr4.own ho4 (by decide) hg5, Blk.grown ka4 hg5 (by intro e; injection e with e; omega)⟩
                · congr 1; omega
                · intro a' ha'
                  exact ⟨by omega, hsa⟩
                · intro r hr
                  rcases List.mem_append.1 hr with hr | hr
                  · exact HRG.out r hr
                  · rw [List.mem_singleton.1 hr]; exact ⟨by omega, by omega, by omega, by omega⟩
            · clear ht
              have hu2 : u = false := by rw [← HU.out]; unfold lgU; rw [HTT.out]; exact decide_eq_false fun ⟨z, _⟩ => by have := HT_.out; omega
              subst hu2
              go_wp2_with (go_at_call 75; refine (HF2.out _ hr4).mono ?_; rintro e w5 ⟨rfl, hr5, hg5⟩)
              go_roundg (gk - 1)
              case measure => omega
              case rel =>
                have el : (rs ++ [((S : Int), (X : Int))]).length = L1 := by rw [← HL1.out]; simp
                have hT := HT_.out
                have hL := HL1.out
                refine ⟨rs ++ [((S : Int), (X : Int))], C4, d4, M + t, rsFail s2 false 132, by rw [el], ?_, ?_, by omega, by omega, HST, ?_, hr5, only_trans hg4 hg5, by rw [el]; exact hr4.own ho4 (by decide) hg5, Blk.grown ka4 hg5 (by intro e; injection e with e; omega)⟩
                · congr 1; omega
                · intro a' ha'
                  exact ⟨by omega, hsa⟩
                · intro r hr
                  rcases List.mem_append.1 hr with hr | hr
                  · exact HRG.out r hr
                  · rw [List.mem_singleton.1 hr]; exact ⟨by omega, by omega, by omega, by omega⟩
        · have hs18 : ¬ ((S : Int) = 18) := by omega
          have hs16 : ¬ ((16 : Int) ≤ (S : Int)) := by omega
          have hs16' : ¬ ((S : Int) = 16) := by omega
          have hle : M + 1 ≤ N := by omega
          have HT_ := Lib.hid ht
          clear ht
          have hu2 : u = true := by rw [← HU.out]; unfold lgU; rw [HTT.out]; exact decide_eq_true ⟨by have := HT_.out; omega, .inl (by omega)⟩
          subst hu2
          go_wp2_with (go_at_call 75; refine (HF2.out _ hr4).mono ?_; rintro e w5 ⟨rfl, hr5, hg5⟩)
          go_roundg (gk - 1)
          case measure => omega
          case rel =>
            have el : (rs ++ [((S : Int), (X : Int))]).length = L1 := by rw [← HL1.out]; simp
            have hT := HT_.out
            have hL := HL1.out
            refine ⟨rs ++ [((S : Int), (X : Int))], C4, d4, M + t, rsFail s2 true 132, by rw [el], ?_, ?_, by omega, by omega, HST, ?_, hr5, only_trans hg4 hg5, by rw [el]; exact hr4.own ho4 (by decide) hg5, Blk.grown ka4 hg5 (by intro e; injection e with e; omega)⟩
            · congr 1; omega
            · intro a' ha'
              exact ⟨by omega, hsa⟩
            · intro r hr
              rcases List.mem_append.1 hr with hr | hr
              · exact HRG.out r hr
              · rw [List.mem_singleton.1 hr]; exact ⟨by omega, by omega, by omega, by omega⟩
    · have hex : (N ≤ M ∧ (∃ a, st = .ok a)) ∨ ∃ e, st = .error e := by
        cases st with
        | error e => exact .inr ⟨e, rfl⟩
        | ok a => exact .inl ⟨by rcases Nat.lt_or_ge M N with h | h; exact absurd ⟨h, a, rfl⟩ hgo; exact h, a, rfl⟩
      have hpt : ∀ a, st = .ok a → N ≤ M ∧ ∃ a0, s = .ok a0 := fun a ha => by
        refine ⟨?_, (HGK.out a ha).2⟩
        rcases hex with ⟨h1, _⟩ | ⟨e, he⟩
        · exact h1
        · rw [he] at ha; cases ha
      obtain ⟨x, E, hxE⟩ : ∃ x E, strL rs (N : Int) = (x, E) := ⟨_, _, rfl⟩
      obtain ⟨p1, p2, p3⟩ := lg_stop hat.out HR.out hpt hN hxE
      have HP := Lib.hid (And.intro p1 p3)
      obtain ⟨L, hL⟩ : ∃ L, rs.length = L := ⟨_, rfl⟩
      have HQ := Lib.hid fun wx (h : Rd wx C (runV rs)) => str_is C d2 L rs N wx x E hL.symm hxE h (by omega) HRG.out (by omega) (by omega)
      have HF2 := Lib.hid fun wx (hr : RdrAt W wx g B n c b st) => show Calls Tryz.prog 75 #[.pointer (some ⟨g, 0, none⟩), .bool ((E : Int) == 0), .int .i64 132] wx (fun r w' => r = .returned (.tuple #[]) ∧ RdrAt W w' g B n c b st ∧ wx.grownBy w' (some g)) from by
        have := HF.out wx ((E : Int) == 0) st hr
        rw [p2] at this
        exact this
      have hrs' : L ≤ M := by omega
      rw [hL] at ho
      rw [hL]
      have hrC := own_rd ho
      have hlt' := hr.lt
      obtain ⟨X, hX⟩ : ∃ X, x.length = X := ⟨_, rfl⟩
      have HX := Lib.hid hX
      rw [hX] at HQ
      clear hgo p1 p2 p3 hxE hpt HS HT HF hav hL hX hrs hat
      have hdone : (N ≤ M) ∨ (M < N ∧ (((rsE st : Nat) : Int) == 0) = false) := by
        by_cases hMN : M < N
        · right
          refine ⟨hMN, ?_⟩
          rcases hex with ⟨h1, _⟩ | ⟨e, he⟩
          · omega
          · have := hr.ne e he
            rw [he, beq_eq_false_iff_ne]; simp only [rsE]; omega
        · left; omega
      clear hex
      rcases hdone with hdone | ⟨hdone, hdone2⟩
      all_goals
        go_wp2_with (first
          | (go_at_call 109; refine (HQ.out _ hrC).mono ?_; rintro e w5 ⟨C5, d5, rfl, hB5⟩; have hr5 := hr.below hB5.1)
          | (go_at_call 75; refine (HF2.out _ hr5).mono ?_; rintro e w6 ⟨rfl, hr6, hg6⟩))
        go_ret
        refine ⟨C5, d5, x, by rw [HX.out]; rfl, by rw [HP.out.1]; exact hr6, only_trans (only_trans hg (only_of_below hB5.1)) hg6, ?_, HP.out.2⟩
        rw [HX.out]
        exact own_far_base (hr5.own hB5.2 (by decide) hg6) hWr
end Go.Proofs.YtahboomghjdjhaaGreat

/-
  Plain: a dynamic block's head, by states.
-/
namespace Go.Proofs.YtahboomghjdjhaaGreat

theorem num_add (l : List Nat) (a n : Nat) : ∀ m, numOf l a (n + m) = numOf l a n + numOf l (a + n) m * 2 ^ n
  | 0 => by simp [numOf]
  | m + 1 => by
    rw [← Nat.add_assoc, numOf, num_add l a n m, numOf, Nat.add_mul, Nat.add_assoc, show a + (n + m) = a + n + m by omega, Nat.pow_add, Nat.mul_assoc, Nat.mul_comm (2 ^ n) (2 ^ m)]
theorem rsGo_bind {α β : Type} (s : Rs) (p : Pa α) (f : α → Pa β) (b : List Nat) : rsGo s (paBind p f) b = match s with
    | .error e => .error e
    | .ok a => match p b a with
      | .error e => .error e
      | .ok (x, n) => rsGo (.ok n) (f x) b := by
  cases s with
  | error e => rfl
  | ok a =>
    cases hp : p b a with
    | error e => rw [rsGo_err (paBind_no hp)]; simp only [hp]
    | ok r => obtain ⟨x, n⟩ := r; unfold rsGo paBind; simp only [hp]
theorem tk_tk (b : List Nat) (s : Rs) (n m : Nat) : rsGo (rsGo s (tkP n) b) (tkP m) b = rsGo s (tkP (n + m)) b := by
  cases s with
  | error e => rfl
  | ok a =>
    by_cases h : a + (n + m) ≤ 8 * b.length
    · rw [rsGo_ok (tkP_ok (by omega)), rsGo_ok (tkP_ok (by omega)), rsGo_ok (tkP_ok h), Nat.add_assoc]
    · rw [rsGo_err (p := tkP (n + m)) (tkP_no (by omega))]
      by_cases h1 : a + n ≤ 8 * b.length
      · rw [rsGo_ok (tkP_ok h1), rsGo_err (tkP_no (by omega))]
      · rw [rsGo_err (p := tkP n) (tkP_no (by omega))]; rfl
theorem rsGo_tk {s : Rs} {n : Nat} {b : List Nat} {m : Nat} (h : rsGo s (tkP n) b = .ok m) : ∃ a, s = .ok a ∧ a + n ≤ 8 * b.length ∧ m = a + n ∧ rsV s (tkP n) b = numOf b a n := by
  cases s with
  | error e => cases h
  | ok a =>
    by_cases hf : a + n ≤ 8 * b.length
    · rw [rsGo_ok (tkP_ok hf)] at h
      cases h
      exact ⟨a, rfl, hf, rfl, rsV_ok (tkP_ok hf)⟩
    · rw [rsGo_err (tkP_no (by omega))] at h; cases h
theorem rsV_lt (s : Rs) (n : Nat) (b : List Nat) : rsV s (tkP n) b < 2 ^ n := by
  cases s with
  | error e => exact Nat.two_pow_pos _
  | ok a =>
    by_cases hf : a + n ≤ 8 * b.length
    · rw [rsV_ok (tkP_ok hf)]; exact numOf_lt b a n
    · rw [rsV_err (tkP_no (by omega))]; exact Nat.two_pow_pos _

/-- Whether a code is whole, by its tree. -/
theorem pw_half {x : Nat} (h : x ≠ 0) : pw x ≤ 16384 := by
  have := Nat.pow_le_pow_right (n := 2) (by omega) (show 15 - x ≤ 14 by omega)
  exact this
theorem kraft_le_used : ∀ l : List Nat, kraft l ≤ used l * 16384
  | [] => by simp [kraft, used]
  | x :: l => by
    have h1 := kraft_le_used l
    have e : kraft (x :: l) = (if x = 0 then 0 else pw x) + kraft l := by simp [kraft]
    rw [e, used_cons]
    by_cases hx : x = 0
    · rw [if_pos hx, if_pos hx]; omega
    · rw [if_neg hx, if_neg hx]; have := pw_half hx; omega
theorem whole_tree {row : List Nat} (hc : canE row 7 = 0) : 1 < (gX row 7).length ↔ kraft row = 32768 := by
  obtain ⟨h1, h2, h3, h4, h5, h6⟩ := canE_ok hc
  rw [(gF_ok hc).2, symS_length, all_used (fun x hx => by have := h4 x hx; omega)]
  have := kraft_le_used row
  constructor
  · intro h
    rcases h6 with h6 | h6 | h6 <;> omega
  · intro h; omega

/-- A dynamic block's head, state by state. -/
structure DynAt (b : List Nat) (a : Nat) (s4 s5 s7 s8 : Rs) (longs fars n : Nat) (row x : List Nat) : Prop where
  e4 : s4 = rsFail (rsGo (.ok a) (tkP 14) b) (decide (longs ≤ 286 ∧ fars ≤ 30)) 132
  v : ∀ m, rsGo (.ok a) (tkP 14) b = .ok m → longs = numOf b a 14 % 32 + 257 ∧ fars = numOf b a 14 / 32 % 32 + 1 ∧ n = numOf b a 14 / 1024 + 4
  e5 : s5 = rsGo s4 (shP n 0 (List.replicate 19 0)) b
  r : ∀ m y k, s4 = .ok m → shP n 0 (List.replicate 19 0) b m = .ok (y, k) → row = y
  e7 : s7 = rsFail (rsFail s5 (decide (canE row 7 = 0)) 132) (decide (1 < (gX row 7).length)) 132
  e8 : s8 = rsGo s7 (lgP (longs + fars) row (longs + fars) []) b
  x : ∀ m y k, s7 = .ok m → lgP (longs + fars) row (longs + fars) [] b m = .ok (y, k) → x = y
theorem rsFail_ok {s : Rs} {u : Bool} {e m : Nat} (h : rsFail s u e = .ok m) : s = .ok m ∧ u = true := by
  cases s with
  | error e' => cases h
  | ok a =>
    cases u with
    | true => exact ⟨h, rfl⟩
    | false => cases h
theorem rsGo_inv {α : Type} {s : Rs} {p : Pa α} {b : List Nat} {m : Nat} (h : rsGo s p b = .ok m) : ∃ a x, s = .ok a ∧ p b a = .ok (x, m) := by
  cases s with
  | error e => cases h
  | ok a =>
    cases hp : p b a with
    | error e => rw [rsGo_err hp] at h; cases h
    | ok r => obtain ⟨x, n⟩ := r; rw [rsGo_ok hp] at h; cases h; exact ⟨a, x, rfl, hp⟩
theorem lgP_len {N : Nat} {row : List Nat} : ∀ (f : Nat) (out b : List Nat) (a : Nat) (y : List Nat) (n : Nat), N ≤ out.length + f → out.length ≤ N → lgP N row f out b a = .ok (y, n) → y.length = N
  | 0, out, b, a, y, n, h1, h2, h => by cases h; omega
  | f + 1, out, b, a, y, n, h1, h2, h => by
    rw [lgP] at h
    split at h
    · cases h; omega
    · obtain ⟨s, m, h3, h4⟩ := paBind_inv h
      obtain ⟨x, m2, h5, h6⟩ := paBind_inv h4
      split at h6
      · cases h6
      · rename_i hno
        have h7 := putR_length ((s : Int), (x : Int)) out
        have h8 := timesOf_pos ((s : Int), (x : Int))
        have h9 : out.length + timesOf ((s : Int), (x : Int)) ≤ N := by
          rcases Nat.lt_or_ge N (out.length + timesOf ((s : Int), (x : Int))) with c | c
          · exact absurd (.inr c) hno
          · exact c
        exact lgP_len f _ b m2 y n (by omega) (by omega) h6
def DyRes (b : List Nat) (a longs fars : Nat) (x : List Nat) (last : Bool) : Rs → Prop
  | .error e => rsGo (.ok a) (dyP last) b = .error e
  | .ok m => dyP last b a = dzP last longs x b m ∧ x.length = longs + fars ∧ longs ≤ 286 ∧ fars ≤ 30 ∧ 257 ≤ longs ∧ 1 ≤ fars
theorem DynAt.dy {b : List Nat} {a : Nat} {s4 s5 s7 s8 : Rs} {longs fars n : Nat} {row x : List Nat} (h : DynAt b a s4 s5 s7 s8 longs fars n row x) (last : Bool) :
    DyRes b a longs fars x last s8 := by
  obtain ⟨e4, hv, e5, hr, e7, e8, hx⟩ := h
  by_cases hf : a + 14 ≤ 8 * b.length
  · have ht := tkP_ok hf
    rw [rsGo_ok ht] at e4 hv
    obtain ⟨rfl, rfl, rfl⟩ := hv _ rfl
    have hd : dyP last b a = dvP last (numOf b a 14) b (a + 14) := paBind_ok ht
    unfold dvP at hd
    generalize numOf b a 14 = v at *
    by_cases hbig : 286 < v % 32 + 257 ∨ 30 < v / 32 % 32 + 1
    · rw [if_pos hbig] at hd
      have : decide (v % 32 + 257 ≤ 286 ∧ v / 32 % 32 + 1 ≤ 30) = false := decide_eq_false (by omega)
      rw [this] at e4
      have e4 : s4 = .error 132 := e4
      subst e4
      have e5 : s5 = .error 132 := e5
      subst e5
      have e7 : s7 = .error 132 := e7
      subst e7
      have e8 : s8 = .error 132 := e8
      subst e8
      exact rsGo_err hd
    · rw [if_neg hbig] at hd
      have : decide (v % 32 + 257 ≤ 286 ∧ v / 32 % 32 + 1 ≤ 30) = true := decide_eq_true (by omega)
      rw [this] at e4
      have e4 : s4 = .ok (a + 14) := e4
      subst e4
      cases hs : shP (v / 1024 + 4) 0 (List.replicate 19 0) b (a + 14) with
      | error e =>
        rw [rsGo_err hs] at e5
        subst e5
        have e7 : s7 = .error e := e7
        subst e7
        have e8 : s8 = .error e := e8
        subst e8
        rw [paBind_no hs] at hd
        exact rsGo_err hd
      | ok r =>
        obtain ⟨y, k⟩ := r
        obtain rfl := hr _ y k rfl hs
        rw [rsGo_ok hs] at e5
        subst e5
        rw [paBind_ok hs] at hd
        unfold dxP at hd
        by_cases hw : canE row 7 ≠ 0 ∨ kraft row ≠ 32768
        · rw [if_pos hw] at hd
          have e7 : s7 = .error 132 := by
            rw [e7]
            by_cases hc : canE row 7 = 0
            · have h0 : decide (1 < (gX row 7).length) = false := decide_eq_false fun hl => by
                have := (whole_tree hc).1 hl
                rcases hw with hw | hw
                · exact hw hc
                · exact hw this
              rw [h0, hc]; rfl
            · have h0 : decide (canE row 7 = 0) = false := decide_eq_false hc
              rw [h0]; rfl
          subst e7
          have e8 : s8 = .error 132 := e8
          subst e8
          exact rsGo_err hd
        · rw [if_neg hw] at hd
          have hc : canE row 7 = 0 := Classical.not_not.1 fun e => hw (.inl e)
          have hk : kraft row = 32768 := Classical.not_not.1 fun e => hw (.inr e)
          have e7 : s7 = .ok k := by
            have h0 : decide (1 < (gX row 7).length) = true := decide_eq_true ((whole_tree hc).2 hk)
            rw [e7, h0, hc]; rfl
          subst e7
          cases hl : lgP (v % 32 + 257 + (v / 32 % 32 + 1)) row (v % 32 + 257 + (v / 32 % 32 + 1)) [] b k with
          | error e =>
            rw [rsGo_err hl] at e8
            subst e8
            rw [paBind_no hl] at hd
            exact rsGo_err hd
          | ok r =>
            obtain ⟨z, m⟩ := r
            rw [rsGo_ok hl] at e8
            subst e8
            rw [paBind_ok hl] at hd
            obtain rfl := hx _ z m rfl hl
            exact ⟨hd, lgP_len _ _ _ _ _ _ (by simp) (by simp) hl, by omega, by omega, by omega, by omega⟩
  · rw [rsGo_err (tkP_no (by omega))] at e4
    have e4 : s4 = .error 10 := e4
    subst e4
    have e5 : s5 = .error 10 := e5
    subst e5
    have e7 : s7 = .error 10 := e7
    subst e7
    have e8 : s8 = .error 10 := e8
    subst e8
    exact rsGo_err (paBind_no (tkP_no (by omega)))
/-- .. and its end. -/
def dzS (m longs : Nat) (x : List Nat) : Rs := rsFail (rsFail (rsFail (.ok m) (decide (0 < nth x 256)) 132) (decide (canE (x.take longs) 15 = 0)) 132) (decide (canE (x.drop longs) 15 = 0)) 132
theorem dz_is (last : Bool) (longs : Nat) (x b : List Nat) (m : Nat) : (dzS m longs x = .error 132 ∧ dzP last longs x b m = .error 132) ∨ (dzS m longs x = .ok m ∧ dzP last longs x b m = .ok (⟨2, last, 0, padL (x.take longs), padL (x.drop longs)⟩, m) ∧ canE (x.take longs) 15 = 0 ∧ canE (x.drop longs) 15 = 0 ∧ 0 < nth x 256) := by
  unfold dzP dzS
  by_cases h0 : nth x 256 = 0
  · left
    rw [if_pos (.inl h0), h0]
    exact ⟨rfl, rfl⟩
  · by_cases h1 : canE (x.take longs) 15 = 0
    · by_cases h2 : canE (x.drop longs) 15 = 0
      · right
        rw [if_neg (by rintro (h | h | h); exact h0 h; exact h h1; exact h h2), h1, h2, decide_eq_true (show 0 < nth x 256 by omega)]
        exact ⟨rfl, rfl, rfl, rfl, by omega⟩
      · left
        rw [if_pos (.inr (.inr h2)), h1, decide_eq_true (show 0 < nth x 256 by omega), decide_eq_false h2]
        exact ⟨rfl, rfl⟩
    · left
      rw [if_pos (.inr (.inl h1)), decide_eq_true (show 0 < nth x 256 by omega), decide_eq_false h1]
      exact ⟨rfl, rfl⟩
end Go.Proofs.YtahboomghjdjhaaGreat
