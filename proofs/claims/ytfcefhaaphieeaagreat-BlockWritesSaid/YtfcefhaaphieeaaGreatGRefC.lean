/-
  Walks: the document's numbers of tokens, by codes.
-/
import Derived.Test.YtfcefhaaphieeaaGreatGBlkI
import Derived.Test.YtfcefhaaphieeaaGreatGReachLaws
import Derived.Test.YtfcefhaaphieeaaGreatGRefB
namespace Go.Proofs.YtfcefhaaphieeaaGreat
open Go.RowKit

theorem rlong_tells (n : Int) (h1 : 3 ≤ n) (h2 : n ≤ 258) (w : World) :
    Calls Tryz.prog 53 #[.int .i64 n] w fun e w' => e = .returned (.tuple #[.int .i64 ((longS n).sym : Nat), .int .i64 ((longS n).n : Nat), .int .i64 ((longS n).x : Nat), .int .i64 0]) ∧ Below w.heap.size w w' := by
  have e := (longS_ok h1 h2).2.1
  have h := rLong_any n w
  rw [e] at h
  exact h
theorem rfar_tells (n : Int) (h1 : 1 ≤ n) (h2 : n ≤ 32768) (w : World) :
    Calls Tryz.prog 54 #[.int .i64 n] w fun e w' => e = .returned (.tuple #[.int .i64 ((farS n).sym : Nat), .int .i64 ((farS n).n : Nat), .int .i64 ((farS n).x : Nat), .int .i64 0]) ∧ Below w.heap.size w w' := by
  have e := (farS_ok h1 h2).2.1
  have h := rFar_any n w
  rw [e] at h
  exact h

/-- A table of codes at a world, in one spelling. -/
def CodAt (w : World) (g : Nat) (l : List Nat) : Prop := ∀ i, i < l.length → w.cell? ⟨g, i * 2, none⟩ = some (.int .u32 (((nthC (codesL l) i).1 : Nat) : Int)) ∧ w.cell? ⟨g, i * 2 + 1, none⟩ = some (.int .u8 (((nthC (codesL l) i).2 : Nat) : Int))
theorem CodAt.of {w : World} {g : Nat} {l : List Nat} (h : Rd w (some ⟨g, 0, none⟩) (codV (codesL l))) : CodAt w g l := fun i hi => by
  have hcl : (codesL l).length = l.length := codesL_length l
  obtain ⟨b, off, e, c1, c2⟩ := h.cod (i := i) (by omega)
  simp only [Option.some.injEq, Addr.mk.injEq, and_true] at e
  obtain ⟨rfl, rfl⟩ := e
  have e : (codesL l)[i]'(by omega) = nthC (codesL l) i := by unfold nthC; rw [List.getElem?_eq_getElem (by omega)]; rfl
  rw [e, Nat.zero_add] at c1 c2
  exact ⟨c1, c2⟩

/-- What a token's symbols are under: both codes have them. -/
theorem sy_in {a b : List Nat} {l : List Tk} (h : SyIn a b (symsL l)) {k : Nat} (hk : k < l.length) {s : Sy} (hs : s ∈ syT l[k]) : if s.far = true then s.sym < b.length else s.sym < a.length := by
  refine h s ?_
  unfold symsL
  rw [List.mem_append]
  exact .inl (List.mem_flatMap.2 ⟨l[k], List.getElem_mem hk, hs⟩)

/-- The tables' codes at hand: what a code is in every world that keeps the tables. -/
structure TabC (w0 : World) (g : Nat) (l : List Nat) (i : Nat) (v j : Nat) : Prop where
  at_ : ∀ wx, Below w0.heap.size w0 wx → wx.cell? ⟨g, i * 2, none⟩ = some (.int .u32 (v : Int)) ∧ wx.cell? ⟨g, i * 2 + 1, none⟩ = some (.int .u8 (j : Int))
  cd : ∀ wx, Calls Tryz.prog 52 #[.agg #[.int .u32 (v : Int), .int .u8 (j : Int)]] wx fun e w' => e = .returned (.agg #[.int .u32 ((rev v j : Nat) : Int), .int .i64 (j : Int)]) ∧ Below wx.heap.size wx w'
  is : codeN (nthC (codesL l) i) = (rev v j, j)
theorem TabC.of {w0 : World} {g : Nat} {l : List Nat} {m : Int} (hE : canE l m = 0) (h : Rd w0 (some ⟨g, 0, none⟩) (codV (codesL l))) (i : Nat) (hi : i < l.length) : ∃ v j, TabC w0 g l i v j := by
  obtain ⟨q1, q2⟩ := code_ok_of hE i
  refine ⟨(nthC (codesL l) i).1, (nthC (codesL l) i).2, ⟨fun wx hb => CodAt.of (h.below hb) i hi, fun wx => rcode_any _ _ wx ?_ (by omega), rfl⟩⟩
  have := Nat.pow_le_pow_right (n := 2) (by omega) (show (nthC (codesL l) i).2 ≤ 32 by omega)
  omega

set_option maxRecDepth 100000 in
set_option maxHeartbeats 4000000 in
theorem rtokens_any (T : Option Addr) (n c : Nat) (l : List Tk) (A : Option Addr) (na ca : Nat) (a : List Nat) (B : Option Addr) (nb cb : Nat) (b : List Nat) (w : World)
    (hT : Rd w T (tkV l)) (hn : n = l.length) (hm : l.length ≤ 65535) (hk : TksOk l) (hA : Bs w A a) (hB : Bs w B b) (hna : na = a.length) (hnb : nb = b.length) (hE : canE a 15 = 0) (hE' : canE b 15 = 0)
    (hi : SyIn a b (symsL l)) (h257 : 256 < a.length) (h1 : 0 < b.length) :
    Calls Tryz.prog 32 #[.slice T n c, .slice A na ca, .slice B nb cb] w fun e w' => ∃ R m d, e = .returned (.slice R m d) ∧ m = (toksD (codesL a) (codesL b) l ++ [codeN (nthC (codesL a) 256)]).length ∧ Builds w w' 72 2 R m d (nbV (toksD (codesL a) (codesL b) l ++ [codeN (nthC (codesL a) 256)])) := by
  have hML : ∀ (x : List Nat) (X : Option Addr) (nx cx : Nat) (wx : World), Bs wx X x → canE x 15 = 0 → nx = x.length → Calls Tryz.prog 51 #[.slice X nx cx] wx fun e w' => ∃ B d, e = .returned (.slice B nx d) ∧ Builds wx w' 108 2 B nx d (codV (codesL x)) := by
    intro x X nx cx wx hx hE hn
    subst hn
    obtain ⟨a1, a2, a3, a4, a5, _⟩ := canE_ok hE
    exact made_any X cx x wx hx (by omega) (fun y hy => by have := a4 y hy; omega) a5
  have HM := Lib.hid hML
  have HN := Lib.hid hn
  have HK := Lib.hid hk
  have HI := Lib.hid (fun k (h : k < l.length) s hs => sy_in hi h (s := s) hs)
  have HE := Lib.hid hE
  have HE' := Lib.hid hE'
  have HNA := Lib.hid hna
  have HNB := Lib.hid hnb
  have hnn : n ≤ 65535 := by omega
  have hna0 : 256 < na := by omega
  have hnb0 : 0 < nb := by omega
  have hTL := Lib.hid (fun k => (toksD_length (codesL a) (codesL b) (l.take k)))
  clear hML hn hk hi hE hE' hna hnb
  go_enter Tryz.func32, Tryz.ntmps32
  go_wp2_with fail
  refine (HM.out a A na ca _ hA HE.out HNA.out).mono ?_
  rintro e w1 ⟨A2, da, rfl, hA1⟩
  have hB1 := hB.below hA1.1
  go_wp2_with fail
  refine (HM.out b B nb cb _ hB1 HE'.out HNB.out).mono ?_
  rintro e w2 ⟨B2, db, rfl, hB2⟩
  have hA2 := hA1.below hB2.1
  have hb2 : Below w.heap.size w w2 := hA2.1
  have hT2 := hT.below hb2
  have hra := hA2.rd
  have hrb := hB2.rd
  have hca := hA2.cap
  have hcb := hB2.cap
  obtain ⟨ga, rfl, ga1, ga2⟩ := hA2.at_ (by omega)
  obtain ⟨gb, rfl, gb1, gb2⟩ := hB2.at_ (by omega)
  have HTA := Lib.hid (fun i (h : i < a.length) => TabC.of HE.out hra i h)
  have HTB := Lib.hid (fun i (h : i < b.length) => TabC.of HE'.out hrb i h)
  clear hA1 hB1 hA2 hB2 hra hrb hA hB hT
  go_wp2_with fail
  go_loopg [9, 10] n (fun gk v9 v10 wr => ∃ (k m : Nat) (R : Option Addr) (d : Nat), k ≤ n ∧ gk = n - k ∧ v10 = .int .i64 (k : Int) ∧ v9 = .slice R m d ∧ m ≤ 4 * k ∧ Builds w2 wr 72 2 R m d (nbV (toksD (codesL a) (codesL b) (l.take k))))
  case atStart => exact ⟨0, 0, none, 0, by omega, rfl, rfl, rfl, by omega, Builds.nil_ _ _ _⟩
  case round =>
    obtain ⟨k, m, R, d, hk, hgk, rfl, rfl, hmk, hR⟩ := hrel
    have HG := Lib.hid hgk
    clear hgk
    by_cases hlt : k < n
    · have hkl : k < l.length := by have := HN.out; omega
      obtain ⟨bt, off, rfl, c0, c1, c2⟩ := (hT2.below hR.1).tk hkl
      have hlt1 := cell_lt c0
      have hsn := toksD_snoc (codesL a) (codesL b) (l.take k) l[k]
      rw [← List.take_succ_eq_append_getElem hkl] at hsn
      obtain ⟨t1, t2⟩ := HK.out _ (List.getElem_mem hkl)
      have HI2 := Lib.hid (HI.out k hkl)
      generalize l[k] = t at *
      obtain ⟨ta, tb, tc⟩ := t
      rcases tk_cases t1 t2 with ⟨e1, e2, e3⟩ | ⟨e1, e2, l1, l2, d1, d2, e3⟩
      all_goals dsimp only at *
      · subst e1
        subst e2
        have hta : ta < a.length := by have := HI2.out ⟨false, ta, 0, 0⟩ (by rw [e3]; simp); simpa using this
        have htn : ta < na := by have := HNA.out; omega
        obtain ⟨v, j, hTC⟩ := HTA.out ta hta
        obtain ⟨x1, x2⟩ := hTC.at_ _ hR.1
        have HC := Lib.hid hTC.cd
        have e4 : nbV (toksD (codesL a) (codesL b) (l.take k)) ++ [Value.int .u32 ((rev v j : Nat) : Int), .int .i64 (j : Int)] = nbV (toksD (codesL a) (codesL b) (l.take (k + 1))) := by
          rw [hsn, nbV_append]; unfold tokD; rw [if_pos rfl, hTC.is]; rfl
        have HS := Lib.hid e4
        clear hsn e3 e4 hTC t1 t2
        generalize rev v j = r at *
        go_wp2_with fail
        refine (HC.out _).mono ?_
        rintro e wa ⟨rfl, ba⟩
        have hRa := hR.below ba
        go_wp2_with (at_builtin; refine grow elem_rn rfl (.tmp 35) (.tmp 45) rfl rfl (hRa.alloc _) rfl (Rd.new' _ _ _ [Value.int .u32 (r : Int), .int .i64 (j : Int)] _ rfl rfl) rfl (by simp [Value.oneCell']) (m + 1) rfl (nbV (toksD (codesL a) (codesL b) (l.take (k + 1)))) HS.out (by omega) (by omega) ?_; intro A3 c3 w5 hB5 hg5)
        go_roundg (n - (k + 1))
        case measure => have := HG.out; omega
        case rel => exact ⟨k + 1, m + 1, A3, c3, by omega, rfl, by go_num, rfl, by omega, hB5⟩
      · subst e2
        have i1 := HI2.out (longS tc) (by rw [e3]; simp)
        have i2 := HI2.out (farS tb) (by rw [e3]; simp)
        rw [if_neg (show ¬ (longS tc).far = true by simp [longS])] at i1
        rw [if_pos (show (farS tb).far = true by simp [farS])] at i2
        obtain ⟨-, o2, o3⟩ := (longS_ok l1 l2).1
        obtain ⟨-, p2, p3⟩ := (farS_ok d1 d2).1
        have o4 := Nat.lt_of_lt_of_le o3 (Nat.pow_le_pow_right (n := 2) (by omega) o2)
        have p4 := Nat.lt_of_lt_of_le p3 (Nat.pow_le_pow_right (n := 2) (by omega) p2)
        obtain ⟨v, j, hTC⟩ := HTA.out (longS tc).sym i1
        obtain ⟨v', j', hTC'⟩ := HTB.out (farS tb).sym i2
        have htn1 : (longS tc).sym < na := by have := HNA.out; omega
        have htn2 : (farS tb).sym < nb := by have := HNB.out; omega
        have HL := Lib.hid (rlong_tells tc l1 l2)
        have HF := Lib.hid (rfar_tells tb d1 d2)
        have e4 : nbV (toksD (codesL a) (codesL b) (l.take k)) ++ [Value.int .u32 ((rev v j : Nat) : Int), .int .i64 (j : Int), .int .u32 (((longS tc).x : Nat) : Int), .int .i64 (((longS tc).n : Nat) : Int), .int .u32 ((rev v' j' : Nat) : Int), .int .i64 (j' : Int), .int .u32 (((farS tb).x : Nat) : Int), .int .i64 (((farS tb).n : Nat) : Int)] = nbV (toksD (codesL a) (codesL b) (l.take (k + 1))) := by
          have q1 : tokP (codesL a) (codesL b) (longS tc) = [(rev v j, j), ((longS tc).x, (longS tc).n)] := by unfold tokP; rw [if_neg (show ¬ (longS tc).far = true by simp [longS]), hTC.is]
          have q2 : tokP (codesL a) (codesL b) (farS tb) = [(rev v' j', j'), ((farS tb).x, (farS tb).n)] := by unfold tokP; rw [if_pos (show (farS tb).far = true by simp [farS]), hTC'.is]
          have q3 : tokD (codesL a) (codesL b) ⟨0, tb, tc⟩ = [(rev v j, j), ((longS tc).x, (longS tc).n), (rev v' j', j'), ((farS tb).x, (farS tb).n)] := by
            unfold tokD
            rw [if_neg e1]
            unfold toksP
            simp only [List.flatMap_cons, List.flatMap_nil, List.append_nil]
            rw [q1, q2]; rfl
          rw [hsn, nbV_append, q3]; rfl
        have HS := Lib.hid e4
        have HAt := Lib.hid (fun wx (hb : Below w2.heap.size w2 wx) => show wx.cell? ⟨ga, (longS tc).sym * 2, none⟩ = some (.int .u32 (v : Int)) ∧ wx.cell? ⟨ga, (longS tc).sym * 2 + 1, none⟩ = some (.int .u8 (j : Int)) ∧ wx.cell? ⟨gb, (farS tb).sym * 2, none⟩ = some (.int .u32 (v' : Int)) ∧ wx.cell? ⟨gb, (farS tb).sym * 2 + 1, none⟩ = some (.int .u8 (j' : Int)) from ⟨(hTC.at_ wx hb).1, (hTC.at_ wx hb).2, (hTC'.at_ wx hb).1, (hTC'.at_ wx hb).2⟩)
        have HC := Lib.hid hTC.cd
        have HC' := Lib.hid hTC'.cd
        clear hsn e3 e4 hTC hTC' t1 t2 o3 p3 i1 i2
        generalize rev v j = r at *
        generalize rev v' j' = r' at *
        generalize (longS tc).sym = y1 at *
        generalize (longS tc).x = x1 at *
        generalize (longS tc).n = n1 at *
        generalize (farS tb).sym = y2 at *
        generalize (farS tb).x = x2 at *
        generalize (farS tb).n = n2 at *
        have hltb := cell_lt c1
        go_wp2_with fail
        refine (HL.out _).mono ?_
        rintro e w3 ⟨rfl, b3⟩
        have hR3 := hR.below b3
        have c1 := (b3.cell (p := ⟨bt, off + k * 3 + 1, none⟩) hltb).trans c1
        have hltc : bt < w3.heap.size := Nat.lt_of_lt_of_le hltb b3.size
        go_wp2_with fail
        refine (HF.out _).mono ?_
        rintro e w4 ⟨rfl, b4⟩
        have hR4 := hR3.below b4
        have s0 := HAt.out _ hR4.1
        have HD := Lib.hid (fun wx (b : Below w4.heap.size w4 wx) => (HC.out wx).mono fun _ w' (h : _ ∧ Below wx.heap.size wx w') => And.intro h.1 (b.trans (h.2.mono b.size)))
        have HD' := Lib.hid (fun wx (b : Below w4.heap.size w4 wx) => (HC'.out wx).mono fun _ w' (h : _ ∧ Below wx.heap.size wx w') => And.intro h.1 (b.trans (h.2.mono b.size)))
        have z1 : (0 : Int) ≤ (y1 : Int) := by omega
        have z2 : (0 : Int) ≤ (y2 : Int) := by omega
        have z3 : (y1 : Int) < (na : Int) := by omega
        have z4 : (y2 : Int) < (nb : Int) := by omega
        have u1 : IntKind.u32.wrap (x1 : Int) = (x1 : Int) := by rw [IntKind.wrap_u32]; omega
        have u2 : IntKind.u32.wrap (x2 : Int) = (x2 : Int) := by rw [IntKind.wrap_u32]; omega
        clear c0 c1 c2 hlt1 hltb hltc b3 b4 hR hR3 HC HC' HL HF
        go_wp2_with fail
        go_region_held3 (fun wx => wx.cell? ⟨ga, y1 * 2, none⟩ = some (.int .u32 (v : Int)) ∧ wx.cell? ⟨ga, y1 * 2 + 1, none⟩ = some (.int .u8 (j : Int)) ∧ wx.cell? ⟨gb, y2 * 2, none⟩ = some (.int .u32 (v' : Int)) ∧ wx.cell? ⟨gb, y2 * 2 + 1, none⟩ = some (.int .u8 (j' : Int))) (first | exact s0 | exact s1 | exact HAt.out _ ((hR4.below ba).alloc _).1 | exact HAt.out _ hB7.1) (first
          | (go_at_call 52; (with_reducible refine Calls.mono (HD.out _ (by first | exact ba | exact Below.drew ba | exact Below.refl w4.heap.size w4 | exact Below.drew (Below.refl w4.heap.size w4))) ?_); rintro e wa ⟨rfl, ba⟩; have s1 := HAt.out _ (hR4.below ba).1)
          | (go_at_call 52; (with_reducible refine Calls.mono (HD'.out _ (by first | exact ba | exact Below.drew ba | exact Below.refl w4.heap.size w4 | exact Below.drew (Below.refl w4.heap.size w4))) ?_); rintro e wa ⟨rfl, ba⟩; have s1 := HAt.out _ (hR4.below ba).1)
          | (refine step_grow elem_rn rfl (.tmp 69) (.tmp 88) rfl rfl (by first | exact (hR4.below ba).alloc _ | exact (hR4.below ba).drew.alloc _) rfl (Rd.new' _ _ _ [Value.int .u32 (r : Int), .int .i64 (j : Int), .int .u32 (x1 : Int), .int .i64 (n1 : Int), .int .u32 (r' : Int), .int .i64 (j' : Int), .int .u32 (x2 : Int), .int .i64 (n2 : Int)] _ (by simp) rfl) rfl (by simp [Value.oneCell']) (m + 4) rfl (nbV (toksD (codesL a) (codesL b) (l.take (k + 1)))) HS.out (by omega) (by omega) ?_; intro A3 c3 w7 hB7 hg7))
        clear u1 u2
        go_wp2_with fail
        go_roundg (n - (k + 1))
        case measure => have := HG.out; omega
        case rel => exact ⟨k + 1, m + 4, A3, c3, by omega, rfl, by go_num, rfl, by omega, hB7⟩
    · obtain rfl : k = n := by omega
      have e : l.take k = l := by have := HN.out; rw [List.take_of_length_le (by omega)]
      rw [e] at hR
      obtain ⟨v, j, hTC⟩ := HTA.out 256 h257
      obtain ⟨x1, x2⟩ := hTC.at_ _ hR.1
      have HC := Lib.hid hTC.cd
      have e4 : nbV (toksD (codesL a) (codesL b) l) ++ [Value.int .u32 ((rev v j : Nat) : Int), .int .i64 (j : Int)] = nbV (toksD (codesL a) (codesL b) l ++ [codeN (nthC (codesL a) 256)]) := by
        rw [nbV_append, hTC.is]; rfl
      have HS := Lib.hid e4
      have HLn := Lib.hid hR.len
      clear e e4 hTC
      generalize rev v j = r at *
      go_wp2_with fail
      refine (HC.out _).mono ?_
      rintro e wa ⟨rfl, ba⟩
      have hRa := hR.below ba
      go_wp2_with (at_builtin; refine grow elem_rn rfl (.tmp 90) (.tmp 95) rfl rfl (hRa.alloc _) rfl (Rd.new' _ _ _ [Value.int .u32 (r : Int), .int .i64 (j : Int)] _ rfl rfl) rfl (by simp [Value.oneCell']) (m + 1) rfl (nbV (toksD (codesL a) (codesL b) l ++ [codeN (nthC (codesL a) 256)])) HS.out (by omega) (by omega) ?_; intro A3 c3 w5 hB5 hg5)
      go_ret
      exact ⟨_, _, _, rfl, by have := hB5.len; rw [nbV_length] at this; omega, hB5.rebase hb2⟩
end Go.Proofs.YtfcefhaaphieeaaGreat
