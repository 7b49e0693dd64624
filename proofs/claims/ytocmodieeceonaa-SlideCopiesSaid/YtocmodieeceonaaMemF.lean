/-
  append onto a full slice that is not the call's own: always new memory, or nothing appended. No program in sight.
-/
import Derived.Test.YtocmodieeceonaaMem
import Derived.Deep.Upon
namespace Go.Proofs.Ytocmodieeceonaa
open Go.RowKit

section
variable {P : Program} (w : World)
theorem src_any {size : Nat} {tx e' : TypeId} (hk : P.underlying tx = some (.slice e')) (B : Option Addr) (m d : Nat) (news : List Value) (hlen : news.length = m * size) (hr : Sl w B news) (hB : B = none → m = 0) (h1 : ∀ u ∈ news, u.oneCell' = true) :
    Src P size tx (.slice B m d) m news w := by
  rcases B with _ | ad
  · have hm := hB rfl
    subst hm
    have hn : news = [] := List.eq_nil_of_length_eq_zero (by simpa using hlen)
    subst hn
    exact Src.ofNil w hk d
  · refine Src.ofSlice w hk ad m d news hlen (fun j u hu => ?_) h1
    have hj : j < news.length := by
      rcases Nat.lt_or_ge j news.length with h | h
      · exact h
      · rw [List.getElem?_eq_none h] at hu; cases hu
    obtain ⟨b, off, e1, hc⟩ := hr (by omega)
    injection e1 with e1
    subst e1
    rw [add_plain]
    exact hc j u hu

theorem run_full (t ty e : TypeId) (i : TypeInfo) (z : Value) (size bytes : Nat) (ht : P.underlying t = some (.slice e)) (hi : P.info? e = some i) (hz : i.zero = some z)
    (hsize : i.size = size) (hby : i.bytes = bytes) (hzs : z.cells.size = size) (hsz : 0 < size)
    (A : Option Addr) (n : Nat) (xs : List Value) (hlo : xs.length = n * size) (hs : Sl w A xs) (hA : A = none → n = 0)
    (B : Option Addr) (m d : Nat) (news : List Value) (hlen : news.length = m * size) (hr : Sl w B news) (hB : B = none → m = 0) (h1 : ∀ u ∈ news, u.oneCell' = true)
    (h63 : n + m ≤ maxLen) (hbytes : (n + m) * bytes ≤ 140737488355328) :
    ∃ A' c' w', (Builtin.append_ #[t, t] ty #[.slice A n n, .slice B m d]).run P w = .ok (.slice A' (n + m) c') w' ∧ Sl w' A' (xs ++ news) ∧ (A' = none → n + m = 0) ∧ n + m ≤ c' ∧ w.grownBy w' none := by
  rcases Nat.eq_zero_or_pos m with rfl | hm
  · have hn : news = [] := List.eq_nil_of_length_eq_zero (by simpa using hlen)
    subst hn
    have hsrc := src_any (P := P) w (size := size) ht B 0 d [] (by simp) hr hB (by simp)
    subst hsize
    exact ⟨A, n, w, Go.run_append_nothing w t t ty e i ht hi A n n (Nat.le_refl _) _ hsrc, by simpa using hs, hA, Nat.le_refl _, World.grownBy.refl w _⟩
  · rcases B with _ | ad
    · have := hB rfl; omega
    have hcells : ∀ j u, news[j]? = some u → w.cell? (ad.add j) = some u := by
      intro j u hu
      have hj : j < news.length := by
        rcases Nat.lt_or_ge j news.length with h | h
        · exact h
        · rw [List.getElem?_eq_none h] at hu; cases hu
      obtain ⟨b, off, e1, hc⟩ := hr (by omega)
      injection e1 with e1
      subst e1
      rw [add_plain]
      exact hc j u hu
    rcases A with _ | a
    · have := hA rfl
      subst this
      have hx : xs = [] := List.eq_nil_of_length_eq_zero (by simpa using hlo)
      subst hx
      obtain ⟨v', w', hrun, r1, r2, _⟩ := run_append_own (P := P) w w.heap.size t ty e i z size bytes ht hi hz hsize hby hzs hsz (.slice none 0 0) 0 [] (World.ownsRow_nil w _ e size) ad m d news hlen hcells h1 h63 hbytes (Nat.le_refl _)
      obtain ⟨A', c', rfl⟩ := own_slice r1
      refine ⟨A', c', w', hrun, Sl.of_own r1, ?_, own_cap r1, r2⟩
      rintro rfl
      rcases r1.2 with ⟨_, h2⟩ | ⟨g, cap, cur, hv, _⟩
      · exact h2
      · cases hv
    · obtain ⟨v', w', hrun, r1, r2⟩ := run_append_arg_grows (P := P) w t ty e i z size bytes ht hi hz hsize hby hzs hsz a n n xs hlo (fun j u hu => by
        have hj : j < xs.length := by
          rcases Nat.lt_or_ge j xs.length with h | h
          · exact h
          · rw [List.getElem?_eq_none h] at hu; cases hu
        obtain ⟨b, off, e1, hc⟩ := hs (by omega)
        injection e1 with e1
        subst e1
        rw [add_plain]
        exact hc j u hu) ad m d news hlen hcells (by omega) h63 hbytes
      obtain ⟨A', c', rfl⟩ := own_slice r1
      refine ⟨A', c', w', hrun, Sl.of_own r1, ?_, own_cap r1, r2⟩
      rintro rfl
      rcases r1.2 with ⟨_, h2⟩ | ⟨g, cap, cur, hv, _⟩
      · exact h2
      · cases hv

theorem wp_full {o : Oper} {a : Act} {K : Act → World → Prop} {Q : Exit → Act → World → Prop} (s x : Operand) (t : TypeId)
    (ho : o.op = .call { callee := .builtin .append, args := #[s, x], argTypes := #[t, t] })
    (e : TypeId) (i : TypeInfo) (z : Value) (size bytes : Nat) (ht : P.underlying t = some (.slice e)) (hi : P.info? e = some i) (hz : i.zero = some z)
    (hsize : i.size = size) (hby : i.bytes = bytes) (hzs : z.cells.size = size) (hsz : 0 < size)
    (A : Option Addr) (n : Nat) (xs : List Value) (hse : a.eval s = .slice A n n) (hlo : xs.length = n * size) (hs : Sl w A xs) (hA : A = none → n = 0)
    (B : Option Addr) (m d : Nat) (news : List Value) (hx : a.eval x = .slice B m d) (hlen : news.length = m * size) (hr : Sl w B news) (hB : B = none → m = 0) (h1 : ∀ u ∈ news, u.oneCell' = true)
    (k : Nat) (hk : k = n + m) (ys : List Value) (hys : ys = xs ++ news)
    (h63 : n + m ≤ maxLen) (hbytes : (n + m) * bytes ≤ 140737488355328)
    (h : ∀ A' c' w', Sl w' A' ys → (A' = none → k = 0) → k ≤ c' → w.grownBy w' none → K (a.put o.dst (.slice A' k c')) w') : o.wp P a w K Q := by
  obtain ⟨A', c', w', hrun, h2, h3, h5, h4⟩ := run_full (P := P) w t o.type e i z size bytes ht hi hz hsize hby hzs hsz A n xs hlo hs hA B m d news hlen hr hB h1 h63 hbytes
  subst hk hys
  unfold Oper.wp execOp
  simp only [ho, resolve, invoke, builtin, Sem.run_bind, Sem.run_pure, Result.andThen_ok, List.map_toArray, List.map_cons, List.map_nil, hse, hx, hrun]
  exact h A' c' w' h2 h3 h5 h4

theorem step_full {ops : Array Oper} {o : Oper} {a : Act} {K : Act → World → Prop} {Q : Exit → Act → World → Prop} {E : Prop} (hgd : o.guard = none) (s x : Operand) (t : TypeId)
    (ho : o.op = .call { callee := .builtin .append, args := #[s, x], argTypes := #[t, t] })
    (e : TypeId) (i : TypeInfo) (z : Value) (size bytes : Nat) (ht : P.underlying t = some (.slice e)) (hi : P.info? e = some i) (hz : i.zero = some z)
    (hsize : i.size = size) (hby : i.bytes = bytes) (hzs : z.cells.size = size) (hsz : 0 < size)
    (A : Option Addr) (n : Nat) (xs : List Value) (hse : a.eval s = .slice A n n) (hlo : xs.length = n * size) (hs : Sl w A xs) (hA : A = none → n = 0)
    (B : Option Addr) (m d : Nat) (news : List Value) (hx : a.eval x = .slice B m d) (hlen : news.length = m * size) (hr : Sl w B news) (hB : B = none → m = 0) (h1 : ∀ u ∈ news, u.oneCell' = true)
    (k : Nat) (hk : k = n + m) (ys : List Value) (hys : ys = xs ++ news)
    (h63 : n + m ≤ maxLen) (hbytes : (n + m) * bytes ≤ 140737488355328)
    (h : ∀ A' c' w', Sl w' A' ys → (A' = none → k = 0) → k ≤ c' → w.grownBy w' none → K (a.put o.dst (.slice A' k c')) w') :
    if Region.wanted o (yielded ops a.tmps) = true then Oper.wp P o a w K Q else E := by
  have hw : Region.wanted o (yielded ops a.tmps) = true := by simp [Region.wanted, hgd]
  rw [if_pos hw]
  exact wp_full w s x t ho e i z size bytes ht hi hz hsize hby hzs hsz A n xs hse hlo hs hA B m d news hx hlen hr hB h1 k hk ys hys h63 hbytes h
end
end Go.Proofs.Ytocmodieeceonaa
