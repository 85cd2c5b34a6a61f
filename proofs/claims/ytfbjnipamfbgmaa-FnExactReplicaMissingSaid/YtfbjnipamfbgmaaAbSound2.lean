/- Each plain operation does what the abstract view says: part 2. -/
import Derived.Test.YtfbjnipamfbgmaaAbSound1
set_option linter.unusedSimpArgs false
set_option linter.unusedVariables false
namespace Go.Ab
section
variable {P : Program} {base : Nat} {G A : Nat → Prop} {w0 : Base} {N : Nat} {st : St} {σ : Nat → Option Nat} {a : Act} {w : World} {o : Oper} {r : CallRes} {ρ : Nat → Option AObj} {fr : Nat → Bool} {d : Nat} {c : Prop} {v : PV} {Δ : List (Nat × Option AObj)}

/-- What an operation may see of the objects, and which keys it may take. -/
structure Sees (st : St) (ρ : Nat → Option AObj) (fr : Nat → Bool) (d : Nat) : Prop where
  sub : ∀ k ob, ρ k = some ob → st.H k = some ob ∧ ob.m ≠ 3
  new : ∀ j, fr (key d j) = true → st.H (key d j) = none
  big : ∀ j, fr (key d j) = true → 1000 ≤ key d j

theorem Sees.at' (S : Sees st ρ fr d) (h : fr d = true) : 1000 ≤ d := by
  have := S.big 0
  simp only [key, Nat.mul_zero, Nat.add_zero] at this
  exact this h

theorem Sees.at (S : Sees st ρ fr d) (h : fr d = true) : st.H d = none := by
  have := S.new 0
  simp only [key, Nat.mul_zero, Nat.add_zero] at this
  exact this h

theorem K_sl {H : Nat → Option AObj} {rd : Bool → Nat → Prop} {k off len : Nat} {ob : AObj} {y : Value} (h : K (env H σ rd w) (.sl k off len) y) (hk : H k = some ob) (hm : ob.m ≠ 3) :
    ∃ ad cap, y = .slice ad len cap ∧ cap ≤ maxLen ∧ ((len = 0 ∧ cap = 0) ∨ (∃ b, σ k = some b ∧ ad = some ⟨b, off * ob.e, none⟩ ∧ len ≤ cap ∧ (off + cap) * ob.e ≤ cellsAt w b)) := by
  rcases h with ⟨⟨o', h1, h2⟩, _⟩ | ⟨_, ad, cap, h1, h2, h3⟩
  · rw [hk] at h1; cases h1; exact absurd h2 hm
  · refine ⟨ad, cap, h1, h2, h3.imp id ?_⟩
    rintro ⟨b, hb, h4, h5, h6⟩
    replace hb : σ k = some b := hb
    have hez : (env H σ rd w).ez k = ob.e := by simp [env, hk]
    have hsz : (env H σ rd w).sz k = cellsAt w b := by simp [env, hb]
    rw [hez] at h4 h6
    rw [hsz] at h6
    exact ⟨b, hb, h4, h5, h6⟩

theorem K_ptr {H : Nat → Option AObj} {rd : Bool → Nat → Prop} {k e o : Nat} {ob : AObj} {y : Value} (h : K (env H σ rd w) (.ptr k e o) y) (hk : H k = some ob) (hm : ob.m ≠ 3) :
    ∃ b, σ k = some b ∧ y = .pointer (some ⟨b, e * ob.e + o, none⟩) := by
  rcases h with ⟨⟨o', h1, h2⟩, _⟩ | ⟨_, b, hb, h1⟩
  · rw [hk] at h1; cases h1; exact absurd h2 hm
  · have hez : (env H σ rd w).ez k = ob.e := by simp [env, hk]
    rw [hez] at h1
    exact ⟨b, hb, h1⟩

theorem K_sl_mk {H : Nat → Option AObj} {rd : Bool → Nat → Prop} {k off len cap : Nat} {ob : AObj} {ad : Option Addr} (hk : H k = some ob) (hm : ob.m ≠ 3) (hc : cap ≤ maxLen)
    (h : (len = 0 ∧ cap = 0) ∨ (∃ b, σ k = some b ∧ ad = some ⟨b, off * ob.e, none⟩ ∧ len ≤ cap ∧ (off + cap) * ob.e ≤ cellsAt w b)) : K (env H σ rd w) (.sl k off len) (.slice ad len cap) := by
  refine .inr ⟨⟨ob, hk, hm⟩, ad, cap, rfl, hc, h.imp id ?_⟩
  rintro ⟨b, hb, h4, h5, h6⟩
  have hez : (env H σ rd w).ez k = ob.e := by simp [env, hk]
  have hsz : (env H σ rd w).sz k = cellsAt w b := by simp [env, hb]
  exact ⟨b, hb, by rw [hez]; exact h4, h5, by rw [hez, hsz]; exact h6⟩

theorem K_ptr_mk {H : Nat → Option AObj} {rd : Bool → Nat → Prop} {k e o b : Nat} {ob : AObj} (hk : H k = some ob) (hm : ob.m ≠ 3) (hb : σ k = some b) :
    K (env H σ rd w) (.ptr k e o) (.pointer (some ⟨b, e * ob.e + o, none⟩)) := by
  have hez : (env H σ rd w).ez k = ob.e := by simp [env, hk]
  exact .inr ⟨⟨ob, hk, hm⟩, b, hb, by rw [hez]⟩

theorem good_mov (R : Rel base G A w0 N st σ a w) (hd : ∀ x, o.dst = some x → x < N) {x : Operand} {y : Opd} (ho : o.op = .move x ∨ o.op = .assign x) (hx : opd x = some y)
    (hs : sem P r (.mov y) st.T ρ fr d = some (c, v, Δ)) : Good P base G A w0 N (st.put o.dst v Δ) o a w := by
  simp only [sem, Option.some.injEq, Prod.mk.injEq] at hs
  obtain ⟨_, rfl, rfl⟩ := hs
  refine good_value R hd (val := a.eval x) ?_ (opd_ok R.tmp hx)
  unfold execOp
  rcases ho with ho | ho <;> rw [ho] <;> rfl

theorem good_pick (R : Rel base G A w0 N st σ a w) (hd : ∀ x, o.dst = some x → x < N) {x y z : Operand} {x' y' z' : Opd} (ho : o.op = .pick x y z) (hx : opd x = some x') (hy : opd y = some y') (hz : opd z = some z')
    (hs : sem P r (.pick x' y' z') st.T ρ fr d = some (c, v, Δ)) : Good P base G A w0 N (st.put o.dst v Δ) o a w := by
  simp only [sem] at hs
  split at hs
  · rename_i t ht
    have h1 := opd_ok R.tmp hx
    rw [ht] at h1
    obtain ⟨h1, _⟩ := h1
    simp only [Option.some.injEq, Prod.mk.injEq] at hs
    obtain ⟨_, rfl, rfl⟩ := hs
    refine good_value R hd (val := if t then a.eval y else a.eval z) ?_ ?_
    · unfold execOp
      rw [ho]
      simp [h1, asBool]
    · cases t
      · exact opd_ok R.tmp hz
      · exact opd_ok R.tmp hy
  · cases hs

theorem good_allocOp (R : Rel base G A w0 N st σ a w) (S : Sees st ρ fr d) (hd : ∀ x, o.dst = some x → x < N) {t : TypeId} {zs : List L} (ho : o.op = .alloc t) (hz : zeros P t = some zs)
    (hs : sem P r (.alloc zs) st.T ρ fr d = some (c, v, Δ)) : Good P base G A w0 N (st.put o.dst v Δ) o a w := by
  simp only [sem] at hs
  split at hs
  · rename_i hk
    simp only [Option.some.injEq, Prod.mk.injEq] at hs
    obtain ⟨_, rfl, rfl⟩ := hs
    obtain ⟨i, z, hi, hzz, hz1, hz2, hz3, hF, hp, _⟩ := zeros_some hz
    refine good_alloc R hd (S.at hk) (S.at' hk) (by simp) (c := z.cells) (ty := t) (val := .pointer (some ⟨w.heap.size, 0, none⟩)) (w1 := w) rfl rfl rfl rfl ?_ ?_ ?_ ?_ ?_ ?_
    · unfold execOp
      rw [ho]
      simp [Instr.alloc, zeroValue, typeInfo, hi, hzz, newVar, newRow]
    · intro x hx; simp at hx; subst hx; rfl
    · simp [hz3, hz1]
    · intro _ r hr x hx; simp at hr; subst hr; exact hp x hx
    · intro j t' x r' hr hx
      rcases j with _ | j
      · simp at hr; subst hr
        obtain ⟨y, hy, hk'⟩ := (hF (env st.H σ (may base G A) w)).get hx
        exact ⟨y, by simpa using hy, hk'⟩
      · simp at hr
    · intro E h1 h2 h3 h4
      exact .inr ⟨h1, _, h2, by simp⟩
  · cases hs

theorem pures_iff {cs : List L} : pures cs = true ↔ ∀ x ∈ cs, x.pure = true := by simp [pures]

theorem good_box (R : Rel base G A w0 N st σ a w) (S : Sees st ρ fr d) (hd : ∀ x, o.dst = some x → x < N) {t : TypeId} {x : Operand} {y : Opd} (ho : o.op = .box t x) (hx : opd x = some y)
    (hs : sem P r (.box y) st.T ρ fr d = some (c, v, Δ)) : Good P base G A w0 N (st.put o.dst v Δ) o a w := by
  have h1 := opd_ok R.tmp hx
  simp only [sem] at hs
  split at hs
  · rename_i hk
    split at hs
    · rename_i hok
      simp only [Option.some.injEq, Prod.mk.injEq] at hs
      obtain ⟨_, rfl, rfl⟩ := hs
      have hF := cells_F2 h1 hok
      have hl := hF.length
      refine good_alloc R hd (S.at hk) (S.at' hk) (by simp) (c := (a.eval x).cells) (ty := t) (val := .pointer (some ⟨w.heap.size, 0, none⟩)) (w1 := w) rfl rfl rfl rfl ?_ ?_ ?_ ?_ ?_ ?_
      · unfold execOp
        rw [ho]
        simp [Instr.box, newVar, newRow]
      · intro x hx; simp at hx; subst hx; rfl
      · rw [Array.length_toList] at hl
        simpa using Nat.le_of_eq hl
      · intro hpl r hr x hx; simp at hr; subst hr; exact pures_iff.mp hpl x hx
      · intro j t' x' r' hr hx'
        rcases j with _ | j
        · simp at hr; subst hr
          obtain ⟨y', hy, hk'⟩ := hF.get hx'
          exact ⟨y', by simpa using hy, hk'⟩
        · simp at hr
      · intro E h1 h2 h3 h4
        exact .inr ⟨h1, _, h2, by simp⟩
    · cases hs
  · cases hs

theorem F2.append_inv {α β : Type} {R : α → β → Prop} {as : List α} {bs : List β} (h : F2 R as bs) (n : Nat) : F2 R (as.take n) (bs.take n) ∧ F2 R (as.drop n) (bs.drop n) := by
  induction h generalizing n with
  | nil => simp; exact .nil
  | cons hab _ ih =>
    cases n with
    | zero => exact ⟨.nil, .cons hab (by assumption)⟩
    | succ n => exact ⟨.cons hab (ih n).1, (ih n).2⟩

theorem F2.splice {E : Env} {zs cs : List L} {ys vs : List Value} {off : Nat} (h : F2 (K E) zs ys) (k : F2 (K E) cs vs) :
    F2 (K E) (splice zs off cs) (ys.take off ++ vs ++ ys.drop (off + vs.length)) := by
  unfold Go.Ab.splice
  rw [← k.length, List.append_assoc]
  exact (h.append_inv off).1.append (k.append (h.append_inv (off + cs.length)).2)

/-- The model's own filling of a part: cell by cell. -/
theorem fold_splice (vs : List Value) (off : Nat) : ∀ (j : Nat) (cs : Array Value), off + j + vs.length ≤ cs.size →
    ((vs.zipIdx j).foldl (fun (cs : Array Value) (x : Value × Nat) => cs.setIfInBounds (off + x.2) x.1) cs).toList = cs.toList.take (off + j) ++ vs ++ cs.toList.drop (off + j + vs.length) := by
  induction vs with
  | nil => intro j cs _; simp
  | cons v vs ih =>
    intro j cs hl
    simp only [List.zipIdx_cons, List.foldl_cons]
    rw [ih (j + 1) _ (by simp at hl ⊢; omega)]
    have e := list_seg_step cs.toList (off + j) v vs (by simp at hl ⊢; omega)
    simpa [Array.toList_setIfInBounds, Nat.add_assoc] using e

theorem fill_ok {E : Env} {place : Nat → Option (Nat × Nat)} : ∀ {ps : List (Nat × Value)} {qs : List (Nat × Nat × PV)} {zs xs : List L} {cells : Array Value},
    F2 (fun (q : Nat × Nat × PV) (p : Nat × Value) => place p.1 = some (q.1, q.2.1) ∧ KP E q.2.2 p.2) qs ps → F2 (K E) zs cells.toList → fillL zs qs = some xs →
    ∃ ys, Instr.fill place cells ps = some ys ∧ F2 (K E) xs ys.toList ∧ ys.size = cells.size
  | [], _, zs, xs, cells, .nil, hF, h => by
    simp only [fillL, Option.some.injEq] at h; subst h
    exact ⟨cells, rfl, hF, rfl⟩
  | (i, pval) :: ps, (off, n, pv) :: qs, zs, xs, cells, .cons hpq hrest, hF, h => by
    simp only [fillL] at h
    replace hpq : place i = some (off, n) ∧ KP E pv pval := hpq
    split at h
    · rename_i hh
      obtain ⟨h0, h1, h2⟩ := hh
      have hl : zs.length = cells.size := by have := hF.length; simpa using this
      have hc := cells_F2 hpq.2 h0
      have hcl : pv.cells.length = pval.cells.size := by have := hc.length; simpa using this
      have hsp := hF.splice (off := off) hc
      have hfs := fold_splice pval.cells.toList off 0 cells (by simp; omega)
      simp only [Nat.add_zero] at hfs
      rw [← hfs] at hsp
      obtain ⟨ys, h3, h4, h5⟩ := fill_ok hrest hsp h
      have hsz : (List.foldl (fun (cs : Array Value) (x : Value × Nat) => cs.setIfInBounds (off + x.2) x.1) cells pval.cells.toList.zipIdx).size = cells.size := by
        have := congrArg List.length hfs
        simp only [Array.length_toList, List.length_append, List.length_take, List.length_drop] at this
        rw [this]; omega
      refine ⟨ys, ?_, h4, h5.trans hsz⟩
      simp only [Instr.fill, hpq.1]
      have e1 : (decide (pval.cells.size ≠ n) || decide (off + pval.cells.size > cells.size)) = false := by
        simp; omega
      rw [if_neg (by simpa using e1)]
      rw [← h3]
      congr 1
      rw [← Array.foldl_toList]
      simp
    · cases h
end
end Go.Ab
