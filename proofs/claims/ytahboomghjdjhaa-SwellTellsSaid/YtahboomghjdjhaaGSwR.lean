/-
  Walks: a stream tells a token.
-/
import Derived.Deep.AppendLies
import Derived.Test.YtahboomghjdjhaaG37
import Derived.Test.YtahboomghjdjhaaG41
import Derived.Test.YtahboomghjdjhaaGSlideLaws
namespace Go.Proofs.Ytahboomghjdjhaa
open Go.RowKit

/-- What a token does. -/
def tellS (room : Nat) (s : Ss) (t : St) : Except Nat Ss :=
  if s.win.length < t.dist then .error 60 else if room < s.told.length + (moreT s.win t).length then .error 140
  else .ok ⟨s.a, s.k, s.over, lastL 32768 (s.win ++ moreT s.win t), s.told ++ moreT s.win t⟩

theorem rd_blk {w : World} {g : Nat} {t : TypeId} {cs : Array Value} {xs : List Value} (k : Blk w g t cs) (h : cs.toList = xs) : Rd w (some ⟨g, 0, none⟩) xs :=
  ⟨fun _ => ⟨g, 0, rfl, fun i u hu => by rw [Nat.zero_add, Blk.cell k i, ← hu, ← h]; simp⟩, fun e => by cases e⟩
section
variable {P : Program} {w : World}
/-- append, as a step of a region that draws its order; where the new row lies. -/
theorem step_grow_at {ops : Array Oper} {o : Oper} {a : Act} {K : Act → World → Prop} {Q : Exit → Act → World → Prop} {D : Prop} {t e : TypeId} {bytes : Nat} (E : Elem P t e 1 bytes) (hgd : o.guard = none) (s x : Operand)
    (ho : o.op = .call { callee := .builtin .append, args := #[s, x], argTypes := #[t, t] })
    {base : Nat} {A : Option Addr} {n c : Nat} {xs : List Value} (hs : a.eval s = .slice A n c) (hown : w.ownsRow base e 1 (.slice A n c) n xs) (hbase : base ≤ w.heap.size)
    {T : Addr} {m d : Nat} {news : List Value} (hx : a.eval x = .slice (some T) m d) (hr : Rd w (some T) news) (hlen : news.length = m) (h1 : ∀ u ∈ news, u.oneCell' = true) (hm : 0 < m)
    (k : Nat) (hk : n + m = k) (ys : List Value) (hys : xs ++ news = ys) (h63 : k ≤ 1000000000) (hby : bytes ≤ 1000)
    (h : ∀ g cap w', w'.ownsRow base e 1 (.slice (some ⟨g, 0, none⟩) k cap) k ys → w.grownBy w' (Value.slice A n c).ownBlock → ((Value.slice A n c).ownBlock = some g ∨ g = w.heap.size) → g < w'.heap.size → K (a.put o.dst (.slice (some ⟨g, 0, none⟩) k cap)) w') :
    if Region.wanted o (yielded ops a.tmps) = true then Oper.wp P o a w K Q else D := by
  obtain ⟨i, z, hi, hz, hsize, hbytes, hzs⟩ := E.inf
  subst hk hys
  obtain ⟨b, off, hT, hc⟩ := hr.1 (by omega)
  injection hT with hT
  subst hT
  exact step_append_lies w hgd s x t ho base e i z 1 bytes E.und hi hz hsize hbytes hzs (by omega) _ n xs hs hown _ m d news hx (by omega) (fun j u hu => by rw [add_plain]; exact hc j u hu) h1 hm (by unfold maxLen; omega) (by
    have : (n + m) * bytes ≤ 1000000000 * 1000 := Nat.mul_le_mul h63 hby
    omega) hbase _ rfl h
end
theorem own_some {w : World} {base e n c : Nat} {A : Option Addr} {l : List Nat} (h : w.ownsRow base e 1 (.slice A n c) n (u8s l)) (hl : 1 ≤ l.length) : ∃ g, A = some ⟨g, 0, none⟩ := by
  cases A with
  | none => rw [own_nil h rfl] at hl; simp at hl
  | some a =>
    have hn : 0 < n := by
      rcases Nat.eq_zero_or_pos n with h0 | h0
      · exfalso
        have := h.1
        rw [h0] at this
        simp [u8s] at this
        subst this
        simp at hl
      · exact h0
    obtain ⟨g, hg, _⟩ := own_at h hn
    exact ⟨g, hg⟩

set_option maxRecDepth 100000 in
set_option maxHeartbeats 4000000 in
theorem stell_any (W w : World) (sb room : Nat) (b w0 : List Nat) (q : Sc) (s : Ss) (v : Sv) (t : St) (ht : StOk t) (hB : StrB W w sb q s v) (hP : StrP W sb q room b w0 s) :
    Calls Try.prog 36 #[.pointer (some ⟨sb, 0, none⟩), .agg #[.int .u8 (t.lit : Int), .int .i64 (t.dist : Int), .int .i64 (t.long : Int)]] w fun r w' => SOne W w' sb q s (tellS room s t) r := by
  have hwl : s.win.length ≤ 32768 := by rw [hP.inv.win, lastL_length]; omega
  have hwb : ∀ x ∈ s.win, x < 256 := by
    rw [hP.inv.win]
    intro x hx
    rcases List.mem_append.1 (mem_lastL hx) with hx | hx
    · exact hP.wb x hx
    · exact hP.inv.byte x hx
  have hmay : MayW (32768 : Nat) s.win := ⟨by omega, by omega, by omega⟩
  have HP := Lib.hid hP
  have HB := Lib.hid hB
  have HT := Lib.hid ht
  clear hP hB ht
  go_enter Try.func36, Try.ntmps36
  go_upto_region 2 with (fail)
  have hb2 : Below w.heap.size w ((w.alloc (.cells #[.int .u8 (t.lit : Int), .int .i64 (t.dist : Int), .int .i64 (t.long : Int)] 73)).alloc (.cells #[.int .u8 (t.lit : Int)] 5)) := ((Below.refl _ _).alloc (Nat.le_refl _) _).alloc (by simp) _
  have kt : Blk ((w.alloc (.cells #[.int .u8 (t.lit : Int), .int .i64 (t.dist : Int), .int .i64 (t.long : Int)] 73)).alloc (.cells #[.int .u8 (t.lit : Int)] 5)) w.heap.size 73 #[.int .u8 (t.lit : Int), .int .i64 (t.dist : Int), .int .i64 (t.long : Int)] := Blk.alloc (Blk.new _ _ _) _
  have kl : Blk ((w.alloc (.cells #[.int .u8 (t.lit : Int), .int .i64 (t.dist : Int), .int .i64 (t.long : Int)] 73)).alloc (.cells #[.int .u8 (t.lit : Int)] 5)) (w.heap.size + 1) 5 #[.int .u8 (t.lit : Int)] := Blk.new' _ _ _ _ (by simp)
  change Code.wp _ _ _ _ ((w.alloc (.cells #[.int .u8 (t.lit : Int), .int .i64 (t.dist : Int), .int .i64 (t.long : Int)] 73)).alloc (.cells #[.int .u8 (t.lit : Int)] 5))
  generalize (w.alloc (.cells #[.int .u8 (t.lit : Int), .int .i64 (t.dist : Int), .int .i64 (t.long : Int)] 73)).alloc (.cells #[.int .u8 (t.lit : Int)] 5) = w2 at *
  have h2 := HB.out.below HP.out.ge hb2
  have ks := h2.arr
  obtain ⟨tk, htk⟩ : ∃ tk, w.heap.size = tk := ⟨_, rfl⟩
  rw [htk] at kt kl
  rw [htk]
  have c42 : w2.cell? ⟨sb, 42, none⟩ = some (.int .i64 32768) := Arr.cell ks 42 (by omega)
  have c43 : w2.cell? ⟨sb, 43, none⟩ = some (.slice v.A v.nl v.cl) := Arr.cell ks 43 (by omega)
  go_upto_region 3 with (fail)
  have hb3 : Below w.heap.size w (w2.alloc (.cells #[.int .i64 32768, .slice v.A v.nl v.cl] 30)) := hb2.alloc hb2.size _
  have kt3 := Blk.alloc kt (.cells #[.int .i64 32768, .slice v.A v.nl v.cl] 30)
  have kl3 := Blk.alloc kl (.cells #[.int .i64 32768, .slice v.A v.nl v.cl] 30)
  have htw : tk + 1 < w2.heap.size := Blk.lt kl
  have kw3 : Blk (w2.alloc (.cells #[.int .i64 32768, .slice v.A v.nl v.cl] 30)) w2.heap.size 30 #[.int .i64 32768, .slice v.A v.nl v.cl] := Blk.new _ _ _
  have hwk : w.heap.size ≤ w2.heap.size := hb2.size
  obtain ⟨wk, hwk'⟩ : ∃ wk, w2.heap.size = wk := ⟨_, rfl⟩
  rw [hwk'] at kw3 hwk htw
  rw [hwk']
  generalize w2.alloc (.cells #[.int .i64 32768, .slice v.A v.nl v.cl] 30) = w3 at *
  have h3 := HB.out.below HP.out.ge hb3
  have HK := Lib.hid (And.intro htk hwk')
  clear ks kt kl h2 hb2 c42 c43 htk hwk'
  have ct := Blk.cells kt3
  have cw := Blk.cells kw3
  have fw := Blk.frozens kw3
  by_cases hfar : s.win.length < t.dist
  · have hl0 : t.long ≠ 0 := fun h0 => by have := HT.out.none_ h0; omega
    have hE : tellS room s t = .error 60 := by unfold tellS; rw [if_pos hfar]
    have HE := Lib.hid hE
    have hC := copy_far v.A v.cl s.win 32768 (t.dist : Int) (t.long : Int) w3 hmay (by have := HT.out.long; omega) (by omega)
    rw [← h3.nl_] at hC
    have HC := Lib.hid hC
    clear hC
    have hlp : ((0 : Int) < (t.long : Int)) := by omega
    clear hE
    go_wp2_with (first
      | (go_at_call 42; refine HC.out.mono ?_; rintro e w4 ⟨hb4, B4, d4, C4, f4, rfl, _, _⟩; have kw4 := Blk.below kw3 hb4 (Blk.lt kw3); have cw4 := Blk.cells kw4; have fw4 := Blk.frozens kw4))
    go_ret
    have hb5 : Below w.heap.size w w4 := hb3.trans (hb4.mono hb3.size)
    exact SOne.no HE.out rfl (Below.then_only (Below.trans HB.out.only (hb5.mono HB.out.only.size)) (only_set (only_set (only_self _ _) 0 _) 1 _) (Nat.le_trans HB.out.only.size hb5.size) (Nat.le_trans HB.out.only.size hwk)) (by omega)
  · obtain ⟨more, hmore⟩ : ∃ m, moreT s.win t = m := ⟨_, rfl⟩
    obtain ⟨M, hM⟩ : ∃ M, lastL 32768 (s.win ++ moreT s.win t) = M := ⟨_, rfl⟩
    have hml : 1 ≤ more.length ∧ more.length ≤ 258 := by rw [← hmore, moreT_length]; have := HT.out.long; split <;> omega
    have HM := Lib.hid (And.intro hmore hM)
    go_upto_if 17 with (fail)
    go_cut [4, 5] (fun v4 v5 wx => v4 = .int .i64 0 ∧ ∃ T ct B d, v5 = .slice (some T) more.length ct ∧ Rd wx (some T) (u8s more) ∧ wx.ownsRow w3.heap.size 5 1 (.slice B M.length d) M.length (u8s M) ∧ Blk wx wk 30 #[.int .i64 32768, .slice B M.length d] ∧ Below w.heap.size w wx ∧ w3.heap.size ≤ wx.heap.size)
    case first =>
      have hbs : Bs w3 v.A s.win := Bs.of_own h3.win hwb
      have hnil : v.A = none → s.win = [] := own_nil h3.win
      by_cases h0 : t.long = 0
      · have hmr : more = [t.lit] := by rw [← hmore]; unfold moreT; rw [if_pos h0]
        have hM1 : lastL 32768 (s.win ++ [t.lit]) = M := by rw [← hM, hmore, hmr]
        have HPu := Lib.hid (push_is v.A (some ⟨tk + 1, 0, none⟩) v.cl 1 s.win [t.lit] 32768 v.nl 1 w3 M hM1 h3.nl_ rfl hmay (by simp) (by rw [← h3.nl_]; exact h3.cl_) hbs hnil (rd_u8 (rd_blk kl3 rfl) (by intro x hx; rw [List.mem_singleton.1 hx]; exact HT.out.lit)) (fun e => by cases e))
        have hl0 : ¬ (0 < t.long) := by omega
        have HML := Lib.hid hmr
        have kl3' := kl3
        have HN := Lib.hid h0
        clear hM1 hmore hM hmr hbs hnil h0
        go_wp2_with (first
          | (go_at_call 43; refine HPu.out.mono ?_; rintro e w4 ⟨hb4, B4, d4, rfl, o4⟩; have kw4 := Blk.below kw3 hb4 (Blk.lt kw3); have cw4 := Blk.cells kw4; have fw4 := Blk.frozens kw4))
        go_meet
        have g5 : w4.grownBy ((w4.setCell ⟨wk, 0, none⟩ (.int .i64 32768)).setCell ⟨wk, 1, none⟩ (.slice B4 M.length d4)) (some wk) := only_set (only_set (only_self _ _) 0 _) 1 _
        have hb5 : Below w.heap.size w w4 := hb3.trans (hb4.mono hb3.size)
        refine ⟨rfl, ⟨tk + 1, 0, none⟩, 1, B4, d4, by rw [HML.out]; rfl, by rw [HML.out]; exact rd_blk (Blk.grown (Blk.below kl3 hb4 (Blk.lt kl3)) g5 (by intro e; injection e with e; omega)) rfl, own_only o4 kw4 (by decide) g5, (kw4.set_ 0 _).set_ 1 _, Below.then_only hb5 g5 hb5.size hwk, Nat.le_trans hb4.size g5.size⟩
      · have hsp : s.win ++ more = copyL s.win t.dist t.long := by rw [← hmore]; unfold moreT; rw [if_neg h0]; exact copyL_split _ _ _
        have hT : (copyL s.win t.dist t.long).drop s.win.length = more := by rw [← hmore]; unfold moreT; rw [if_neg h0]
        have hM1 : lastL 32768 (copyL s.win t.dist t.long) = M := by rw [← hsp, ← hmore]; exact hM
        have HCo := Lib.hid (copy_is v.A v.cl s.win 32768 v.nl t.dist t.long w3 M more hM1 hT h3.nl_ hmay HT.out.long (HT.out.both h0).2 (by omega) hbs hnil)
        have hl0 : 0 < t.long := by omega
        have HN := Lib.hid h0
        clear hM1 hmore hM hsp hT hbs hnil h0
        go_wp2_with (first
          | (go_at_call 42; refine HCo.out.mono ?_; rintro e w4 ⟨hb4, B4, d4, C4, f4, rfl, o4, p4⟩; have kw4 := Blk.below kw3 hb4 (Blk.lt kw3); have cw4 := Blk.cells kw4; have fw4 := Blk.frozens kw4))
        go_meet
        have g5 : w4.grownBy ((w4.setCell ⟨wk, 0, none⟩ (.int .i64 32768)).setCell ⟨wk, 1, none⟩ (.slice B4 M.length d4)) (some wk) := only_set (only_set (only_self _ _) 0 _) 1 _
        have hb5 : Below w.heap.size w w4 := hb3.trans (hb4.mono hb3.size)
        obtain ⟨gT, hgT⟩ := own_some p4 hml.1
        subst hgT
        have p5 := own_only p4 kw4 (by decide) g5
        refine ⟨rfl, ⟨gT, 0, none⟩, f4, B4, d4, rfl, own_rd p5, own_only o4 kw4 (by decide) g5, (kw4.set_ 0 _).set_ 1 _, Below.then_only hb5 g5 hb5.size hwk, Nat.le_trans hb4.size g5.size⟩
    case rest =>
      obtain ⟨rfl, T, ct', B5, d5, rfl, hrT, o5, kw5, hb5, hsz⟩ := hcut
      have h5 := HB.out.below HP.out.ge hb5
      have c0 : wc.cell? ⟨sb, 0, none⟩ = some (.int .i64 (q.most : Int)) := Arr.cell h5.arr 0 (by omega)
      have c1 : wc.cell? ⟨sb, 1, none⟩ = some (.int .i64 ((q.m0 + s.told.length : Nat) : Int)) := Arr.cell h5.arr 1 (by omega)
      have hb3' : w.heap.size ≤ w3.heap.size := hb3.size
      clear kt3 kl3 kw3 h3 ct cw fw hb3
      obtain ⟨md, hmd⟩ : ∃ md, q.m0 + s.told.length = md := ⟨_, rfl⟩
      rw [hmd] at c1
      have hmd2 : md ≤ q.most ∧ q.most ≤ 131072 := by have h1 := HP.out.inv.room; have h2 := HP.out.room_; have h3 := HP.out.most_; omega
      have HW := Lib.hid (show IntKind.i64.wrap ((md : Int) + (more.length : Int)) = (md : Int) + (more.length : Int) from IntWalk.i64_in _ (by omega))
      have HMD := Lib.hid hmd
      clear hmd hmore hM
      go_upto_region 8 with (fail)
      go_quiet (fail)
      have h6 := h5.below HP.out.ge (below_drewN' (Below.refl _ _) nq)
      have kw6 := Blk.below kw5 (below_drewN' (Below.refl _ _) nq) (Blk.lt kw5)
      have hrT6 := hrT.drewN nq
      have o6 := own_below o5 (below_drewN' (Below.refl _ _) nq)
      have hb6 : Below w.heap.size w (wc.drewN nq) := below_drewN' hb5 nq
      have hsz6 : w3.heap.size ≤ (wc.drewN nq).heap.size := Nat.le_trans hsz (below_drewN' (Below.refl wc.heap.size wc) nq).size
      clear h5 kw5 hrT o5 hb5 hsz c0 c1
      generalize wc.drewN nq = w6 at *
      by_cases hfull : q.most < md + more.length
      · have hE : tellS room s t = .error 140 := by
          unfold tellS
          rw [if_neg hfar, if_pos (by have := HMD.out; have := HP.out.room_; rw [HM.out.1]; omega)]
        have HE := Lib.hid hE
        have hd : (q.most : Int) < (md : Int) + (more.length : Int) := by omega
        clear hE
        go_wp2_with fail
        go_ret
        exact SOne.no HE.out rfl (Below.trans HB.out.only (hb6.mono HB.out.only.size)) (by omega)
      · have hE : tellS room s t = .ok ⟨s.a, s.k, s.over, M, s.told ++ more⟩ := by
          unfold tellS
          rw [if_neg hfar, if_neg (by have := HMD.out; have := HP.out.room_; rw [HM.out.1]; omega), HM.out.2, HM.out.1]
        have HE := Lib.hid hE
        have hd : ¬ ((q.most : Int) < (md : Int) + (more.length : Int)) := by omega
        clear hE
        go_upto_region 10 with (fail)
        have hn7 : v.nt + more.length = (s.told ++ more).length := by rw [h6.nt_, List.length_append]
        have hn8 : (s.told ++ more).length ≤ 1000000000 := by rw [← hn7, h6.nt_]; have := HP.out.inv.room; have := HP.out.room_; have := HP.out.most_; omega
        have HN := Lib.hid hn7
        have HN8 := Lib.hid hn8
        have hbW : W.heap.size ≤ w6.heap.size := Nat.le_trans HB.out.only.size hb6.size
        have hts : (Value.slice v.D v.nt v.ct).ownBlock ≠ some sb := own_blk_ne h6.told h6.arr (by decide)
        have htw2 : (Value.slice v.D v.nt v.ct).ownBlock ≠ some wk := own_blk_ne h6.told kw6 (by decide)
        have HTs := Lib.hid (And.intro hts htw2)
        have c0 : w6.cell? ⟨sb, 0, none⟩ = some (.int .i64 (q.most : Int)) := Arr.cell h6.arr 0 (by omega)
        have c1 : w6.cell? ⟨sb, 1, none⟩ = some (.int .i64 (md : Int)) := (Arr.cell h6.arr 1 (by omega)).trans (by rw [← HMD.out]; rfl)
        have c42 : w6.cell? ⟨sb, 42, none⟩ = some (.int .i64 32768) := Arr.cell h6.arr 42 (by omega)
        have c43 : w6.cell? ⟨sb, 43, none⟩ = some (.slice v.A v.nl v.cl) := Arr.cell h6.arr 43 (by omega)
        have c47 : w6.cell? ⟨sb, 47, none⟩ = some (.slice v.D v.nt v.ct) := Arr.cell h6.arr 47 (by omega)
        have fs := fun i => Arr.free h6.arr i
        have cw6 := Blk.cells kw6
        have fw6 := Blk.frozens kw6
        clear hts htw2 hn7 hn8 hd
        go_cut [] (fun wx => ∃ v', StrB W wx sb q ⟨s.a, s.k, s.over, M, s.told ++ more⟩ v')
        case first =>
          go_region_law (
            refine step_grow_at selem_u8 rfl (.tmp 66) (.tmp 67) rfl rfl (own_drew h6.told) hbW rfl (hrT6.drew) (u8s_length _) (u8s_one _) hml.1 _ HN.out (u8s (s.told ++ more)) (u8s_append _ _).symm HN8.out (by omega) ?_; intro g7 ce7 w7 o7 hg7 hat7 hlt7
            have k7 : Arr w7 sb 51 48 (svF q s v) := Blk.grown (Arr.drew h6.arr) hg7 HTs.out.1.symm
            have kw7 : Blk w7 wk 30 #[.int .i64 32768, .slice B5 M.length d5] := Blk.grown (Arr.drew (f := fun i => if i = 0 then Value.int .i64 32768 else .slice B5 M.length d5) (n := 2) kw6) hg7 HTs.out.2.symm
            have d1 : w7.cell? ⟨sb, 1, none⟩ = some (.int .i64 (md : Int)) := (Arr.cell k7 1 (by omega)).trans (by rw [← HMD.out]; rfl)
            have d42 : w7.cell? ⟨sb, 42, none⟩ = some (.int .i64 32768) := Arr.cell k7 42 (by omega)
            have d43 : w7.cell? ⟨sb, 43, none⟩ = some (.slice v.A v.nl v.cl) := Arr.cell k7 43 (by omega)
            have d47 : w7.cell? ⟨sb, 47, none⟩ = some (.slice v.D v.nt v.ct) := Arr.cell k7 47 (by omega)
            have ds := fun i => Arr.free k7 i
            have dw := Blk.cells kw7)
          all_goals
            go_wp2_with fail
            go_meet
            exact tell_end HB.out HP.out h6 (Nat.le_trans hb3' (Nat.le_refl _)) o6 (by rw [List.length_append]) (by first | exact o7 | (rw [← List.length_append]; exact o7)) hg7 hat7 (by have h1 := HMD.out; have h2 := HW.out; rw [List.length_append]; first | (rw [h2]; omega) | omega)
        case rest =>
          obtain ⟨v', hv'⟩ := hcut
          go_wp2_with fail
          go_ret
          exact SOne.yes HE.out rfl ⟨v', hv'⟩
end Go.Proofs.Ytahboomghjdjhaa
