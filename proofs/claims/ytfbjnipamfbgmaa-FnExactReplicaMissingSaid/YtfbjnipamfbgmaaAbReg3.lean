/- A region of the program, told as abstract operations. -/
import Derived.Test.YtfbjnipamfbgmaaAbReg2
set_option linter.unusedSimpArgs false
set_option linter.unusedVariables false
namespace Go.Ab

def compOper (P : Program) (cops : Array Oper) (o : Oper) : Option AOper :=
  (compOp P o.op).bind fun op => match o.guard with
    | none => some ⟨o.dst, op, none⟩
    | some (j, b) => ((cops[j]?).bind (·.dst)).map fun t => ⟨o.dst, op, some (t, b)⟩

def dstOk (N : Nat) (o : Oper) : Bool := match o.dst with
  | some d => decide (d < N)
  | none => true

section
variable {P : Program} {base : Nat} {G A : Nat → Prop} {w0 : Base} {N : Nat} {st st' : St} {σ : Nat → Option Nat} {a : Act} {w : World} {cops : Array Oper}

theorem vis_sees (st : St) (d : Nat) : Sees st (vis st.H) (fre st.H) d := by
  refine ⟨fun k ob h => ?_, fun j h => ?_, fun j h => ?_⟩
  · unfold vis at h
    split at h
    · rename_i o ho
      split at h
      · cases h
      · rename_i hm; cases h; exact ⟨ho, hm⟩
    · cases h
  · simp only [fre, Bool.and_eq_true, Option.isNone_iff_eq_none, decide_eq_true_eq] at h; exact h.1
  · simp only [fre, Bool.and_eq_true, Option.isNone_iff_eq_none, decide_eq_true_eq] at h; exact h.2

theorem wanted_gd (R : Rel base G A w0 N st σ a w) {o : Oper} {ao : AOper} (hc : compOper P cops o = some ao) {b : Bool} (h : gd ao.guard st.T = some b) : Region.wanted o (yielded cops a.tmps) = b := by
  simp only [compOper, Option.bind_eq_some_iff] at hc
  obtain ⟨op, -, hc⟩ := hc
  unfold Region.wanted
  split at hc
  · rename_i hg
    cases hc
    simp only [gd, Option.some.injEq] at h
    simp only [hg, h]
  · rename_i j want hg
    simp only [Option.map_eq_some_iff] at hc
    obtain ⟨t, ht, rfl⟩ := hc
    simp only [hg]
    simp only [gd] at h
    have hT := R.tmp t
    unfold yielded
    rw [ht]
    simp only [Option.bind_some]
    have hg : a.tmps.getD t undef = (a.tmps[t]?).getD undef := Array.getD_eq_getD_getElem? ..
    split at h
    · rename_i x hx
      rw [hx] at hT
      have hv : a.tmps.getD t undef = .bool x := hT.1
      rw [hg] at hv
      cases hq : a.tmps[t]? with
      | none => rw [hq] at hv; cases hv
      | some y =>
        rw [hq] at hv
        simp only [Option.getD_some] at hv
        subst hv
        simp only [Option.some.injEq] at h
        rw [← h]
        simp
    · rename_i hx
      rw [hx] at hT
      obtain ⟨ys, hv, hF⟩ := hT
      cases hF
      rw [hg] at hv
      simp only [Option.some.injEq] at h
      subst h
      cases hq : a.tmps[t]? with
      | none => rfl
      | some y =>
        rw [hq] at hv
        simp only [Option.getD_some] at hv
        subst hv
        rfl
    · cases h

theorem step_sound (R : Rel base G A w0 N st σ a w) {i : Nat} {o : Oper} {ao : AOper} {r : CallRes} {F : List Nat × List Nat} (hi : cops[i]? = some o) (hd : dstOk N o = true) (hc : compOper P cops o = some ao)
    (h : AStep P r F ao st st') (Q : Exit → Act → World → Prop) : wpOp P cops Q i (fun a' w' => ∃ σ', Rel base G A w0 N st' σ' a' w') a w := by
  obtain ⟨v, Δ, h, rfl⟩ := h
  have hdst : ∀ x, o.dst = some x → x < N := by
    intro x hx
    simpa [dstOk, hx] using hd
  have hao : ao.dst = o.dst ∧ compOp P o.op = some ao.op := by
    simp only [compOper, Option.bind_eq_some_iff] at hc
    obtain ⟨op, ho, hc⟩ := hc
    split at hc
    · cases hc; exact ⟨rfl, ho⟩
    · simp only [Option.map_eq_some_iff] at hc
      obtain ⟨t, -, rfl⟩ := hc
      exact ⟨rfl, ho⟩
  unfold wpOp
  simp only [hi]
  rcases h with ⟨hg, c, hs, hcc, -⟩ | ⟨hg, rfl, rfl, -⟩
  · rw [if_pos (wanted_gd R hc hg), hao.1]
    exact .inl (op_sound R (vis_sees st _) hdst hao.2 (hao.1 ▸ hs) hcc Q)
  · rw [if_neg (by rw [wanted_gd R hc hg]; simp), hao.1]
    exact ⟨σ, R.put hdst (v := .tup []) (val := undef) ⟨[], rfl, .nil⟩⟩

/-- The operations of a region, told. -/
def compOps (P : Program) (N : Nat) (cops : Array Oper) : Option (List AOper) :=
  if cops.toList.all (dstOk N) then cops.toList.mapM (compOper P cops) else none

theorem compOps_get {aops : List AOper} (h : compOps P N cops = some aops) : aops.length = cops.size ∧ ∀ (i : Nat) (ao : AOper), aops[i]? = some ao → ∃ o, cops[i]? = some o ∧ dstOk N o = true ∧ compOper P cops o = some ao := by
  unfold compOps at h
  split at h
  · rename_i hall
    have hF := mapM_F2 (R := fun ao o => dstOk N o = true ∧ compOper P cops o = some ao ∨ dstOk N o ≠ true) (fun o ao ho => by
      by_cases hd : dstOk N o = true
      · exact .inl ⟨hd, ho⟩
      · exact .inr hd) h
    refine ⟨by simpa using hF.length, fun i ao hi => ?_⟩
    obtain ⟨o, ho, hor⟩ := hF.get hi
    have hmem : o ∈ cops.toList := List.mem_of_getElem? ho
    have hd := List.all_eq_true.mp hall o hmem
    rcases hor with h | h
    · exact ⟨o, by simpa using ho, h⟩
    · exact absurd hd h
  · cases h

theorem wpAny_of_allA {aops : List AOper} (hc : compOps P N cops = some aops) {rs : Nat → CallRes} {F : Nat → List Nat × List Nat} {stf : St} {Q : Exit → Act → World → Prop}
    (hQ : ∀ σ a w, Rel base G A w0 N stf σ a w → Q .normal a w) : ∀ (fuel : Nat) (listed : Array Bool) (st : St) (σ : Nat → Option Nat) (a : Act) (w : World), AllA P cops aops rs F stf fuel listed st →
      Rel base G A w0 N st σ a w → wpAny P .any cops Q fuel listed a w
  | 0, listed, st, σ, a, w, h, R => ⟨h.1, hQ σ a w (h.2 ▸ R)⟩
  | fuel + 1, listed, st, σ, a, w, h, R => by
    refine ⟨fun h0 => hQ σ a w (h.1 h0 ▸ R), fun i hi => ?_⟩
    obtain ⟨ao, st', hao, hs, hn⟩ := h.2 i hi
    obtain ⟨o, ho, hd, hco⟩ := (compOps_get hc).2 i ao hao
    refine wpOp_mono ?_ (step_sound R ho hd hco hs Q)
    rintro a' w' ⟨σ', R'⟩
    exact wpAny_of_allA hc hQ fuel _ st' σ' a' w' hn R'

theorem wpOps_of_run {aops : List AOper} (hc : compOps P N cops = some aops) {rs : Nat → CallRes} {F : Nat → List Nat × List Nat} {stf : St} {Q : Exit → Act → World → Prop}
    (hQ : ∀ σ a w, Rel base G A w0 N stf σ a w → Q .normal a w) : ∀ (l : List AOper) (k : Nat) (st : St) (σ : Nat → Option Nat) (a : Act) (w : World), (∀ j, l[j]? = aops[k + j]?) → ARun P rs F l k st stf →
      Rel base G A w0 N st σ a w → wpOps P cops Q (List.range' k l.length) a w
  | [], k, st, σ, a, w, _, h, R => by
    simp only [List.length_nil, List.range'_zero, wpOps]
    exact hQ σ a w (h ▸ R)
  | o :: l, k, st, σ, a, w, hl, h, R => by
    obtain ⟨st', hs, hrun⟩ := h
    have h0 : aops[k]? = some o := by simpa using (hl 0).symm
    obtain ⟨co, ho, hd, hco⟩ := (compOps_get hc).2 k o h0
    rw [List.length_cons, List.range'_succ, wpOps_cons]
    refine wpOp_mono ?_ (step_sound R ho hd hco hs Q)
    rintro a' w' ⟨σ', R'⟩
    exact wpOps_of_run hc hQ l (k + 1) st' σ' a' w' (fun j => by have := hl (j + 1); simpa [Nat.add_assoc, Nat.add_comm 1 j] using this) hrun R'
end

/-- What comes before each operation, by the edges. -/
def ancs : List Oper → List (List Nat) → List (List Nat)
  | [], acc => acc
  | o :: l, acc => ancs l (acc ++ [(o.after.toList.flatMap fun e => if Region.binds .any e then e.on :: acc.getD e.on [] else []).eraseDups])

theorem ancs_pre : ∀ (l : List Oper) (acc : List (List Nat)) (j : Nat), j < acc.length → (ancs l acc).getD j [] = acc.getD j []
  | [], _, _, _ => rfl
  | o :: l, acc, j, h => by
    rw [ancs, ancs_pre l _ j (by simp; omega)]
    simp [List.getElem?_append_left h]

theorem ancs_ok : ∀ (l : List Oper) (acc : List (List Nat)) (j : Nat), ∀ i ∈ (ancs l acc).getD j [], i ∈ acc.getD j [] ∨ ∃ o e, l[j - acc.length]? = some o ∧ acc.length ≤ j ∧ e ∈ o.after ∧ Region.binds .any e = true ∧ (i = e.on ∨ i ∈ (ancs l acc).getD e.on [])
  | [], acc, j, i, hi => .inl hi
  | o :: l, acc, j, i, hi => by
    rcases ancs_ok l _ j i hi with h | ⟨o', e, ho', hle, he, hb, h⟩
    · rcases Nat.lt_trichotomy j acc.length with hj | hj | hj
      · left
        simpa [List.getElem?_append_left hj] using h
      · right
        subst hj
        simp only [List.getD_eq_getElem?_getD, List.getElem?_append_right (Nat.le_refl _), Nat.sub_self, List.getElem?_cons_zero, Option.getD_some, List.mem_eraseDups, List.mem_flatMap] at h
        obtain ⟨e, he, h⟩ := h
        split at h
        · rename_i hb
          refine ⟨o, e, by simp, Nat.le_refl _, by simpa using he, hb, ?_⟩
          rcases List.mem_cons.mp h with h | h
          · exact .inl h
          · right
            have hlt : e.on < acc.length := by
              rcases Nat.lt_or_ge e.on acc.length with h' | h'
              · exact h'
              · rw [List.getElem?_eq_none h'] at h; simp at h
            have := ancs_pre (o :: l) acc e.on hlt
            rw [this]
            simpa using h
        · simp at h
      · simp only [List.getD_eq_getElem?_getD] at h
        rw [List.getElem?_eq_none (by simp; omega)] at h
        simp at h
    · right
      refine ⟨o', e, ?_, by simp at hle; omega, he, hb, h⟩
      simp only [List.length_append, List.length_cons, List.length_nil] at ho' hle
      rw [show j - acc.length = (j - (acc.length + (0 + 1))) + 1 by omega]
      simpa using ho'

theorem ancOk (cops : Array Oper) : AncOk cops fun j => (ancs cops.toList []).getD j [] := by
  intro j i hi
  rcases ancs_ok cops.toList [] j i hi with h | ⟨o, e, ho, _, he, hb, h⟩
  · simp at h
  · exact ⟨o, e, by simpa using ho, he, hb, h⟩

/-- Which operations touch objects (1), which change them (2). -/
def AOp.cls : AOp → Nat
  | .alloc _ | .box _ | .bsl _ _ _ | .mk _ _ _ _ | .store _ _ _ | .app _ _ _ _ | .call _ _ => 2
  | .load _ _ _ | .nilck _ | .faddr _ _ | .slice _ _ _ _ | .iaddr _ _ _ | .len _ | .bstr _ => 1
  | _ => 0

def clashy (a b : AOp) : Bool := (a.cls == 2 && b.cls != 0) || (b.cls == 2 && a.cls != 0)

def slotsApart (x y : AOper) : Bool :=
  (match x.dst with
   | some d => !y.looks.contains d && y.dst != some d
   | none => true) &&
  (match y.dst with
   | some d => !x.looks.contains d
   | none => true)

def footsApart (x y : List Nat × List Nat) : Bool := (x.2.all fun k => !y.1.contains k && !y.2.contains k) && (y.2.all fun k => !x.1.contains k)

/-- For each operation: the earlier ones that may come behind it and may touch the same objects. -/
def clashes (aops : List AOper) (anc : List (List Nat)) : List (List Nat) :=
  (List.range aops.length).map fun j => (List.range j).filter fun i => !(anc.getD j []).contains i && (match aops[i]?, aops[j]? with
    | some x, some y => clashy x.op y.op
    | _, _ => false)

def drawOk (cops : Array Oper) (aops : List AOper) (anc : List (List Nat)) : Bool :=
  (cops.toList.zipIdx.all fun (o, k) => o.after.toList.all fun e => !Region.binds .any e || decide (e.on < k)) &&
  (List.range aops.length).all fun j => (List.range j).all fun i => (anc.getD j []).contains i || (match aops[i]?, aops[j]? with
    | some x, some y => slotsApart x y
    | _, _ => true)

theorem Core.cls {P : Program} {r : CallRes} {F : List Nat × List Nat} {o : AOper} {v : PV} {Δ : List (Nat × Option AObj)} {st : St} (h : Core P r F o v Δ st) :
    (o.op.cls ≠ 2 → F.2 = []) ∧ (o.op.cls = 0 → F.1 = [] ∧ F.2 = []) := by
  rcases h with ⟨_, c, _, _, hf⟩ | ⟨_, _, _, rfl⟩
  · rw [← hf]
    cases o.op <;> simp [AOp.cls, foot]
  · simp

theorem apart_of {P : Program} {ri rj : CallRes} {Fi Fj : List Nat × List Nat} {oi oj : AOper} {vi vj : PV} {Δi Δj : List (Nat × Option AObj)} {si sj : St}
    (hi : Core P ri Fi oi vi Δi si) (hj : Core P rj Fj oj vj Δj sj) (hs : slotsApart oi oj = true) (hf : clashy oi.op oj.op = true → footsApart Fi Fj = true) : Apart Fi oi Fj oj := by
  have ks : (∀ k ∈ Fi.2, k ∉ Fj.1) ∧ (∀ k ∈ Fi.2, k ∉ Fj.2) ∧ ∀ k ∈ Fj.2, k ∉ Fi.1 := by
    by_cases hc : clashy oi.op oj.op = true
    · have := hf hc
      simp only [footsApart, Bool.and_eq_true, List.all_eq_true, Bool.not_eq_true', List.contains_eq_mem, decide_eq_false_iff_not] at this
      exact ⟨fun k hk => (this.1 k hk).1, fun k hk => (this.1 k hk).2, this.2⟩
    · simp only [clashy, Bool.or_eq_true, Bool.and_eq_true, beq_iff_eq, bne_iff_ne, ne_eq, not_or, not_and] at hc
      have ci := hi.cls
      have cj := hj.cls
      by_cases h2 : oi.op.cls = 2
      · have := Decidable.not_not.mp (hc.1 h2)
        have := cj.2 this
        simp [this.1, this.2]
      · rw [ci.1 h2]
        by_cases h3 : oj.op.cls = 2
        · have := Decidable.not_not.mp (hc.2 h3)
          simp [(ci.2 this).1]
        · simp [cj.1 h3]
  simp only [slotsApart, Bool.and_eq_true] at hs
  refine ⟨?_, ?_, ?_, ks.1, ks.2.1, ks.2.2⟩
  · intro d hd; rw [hd] at hs; simp at hs; exact hs.1.1
  · intro d hd; rw [hd] at hs; simp at hs; exact hs.1.2
  · intro d hd; rw [hd] at hs; simp at hs; exact hs.2

/-- The operations in the order of the text; un: which pairs are also to be apart. -/
def RW (P : Program) (un : List (List Nat)) : List AOper → List (List Nat × List Nat) → St → (St → Prop) → Prop
  | [], _, st, K => K st
  | o :: l, acc, st, K => ∃ r F st', AStep P r F o st st' ∧ (∀ i ∈ un.getD acc.length [], footsApart (acc.getD i ([], [])) F = true) ∧ RW P un l (acc ++ [F]) st' K

theorem RW_run {P : Program} {un : List (List Nat)} {K : St → Prop} : ∀ (l : List AOper) (acc : List (List Nat × List Nat)) (st : St), RW P un l acc st K →
    ∃ (rs : Nat → CallRes) (F : Nat → List Nat × List Nat) (stf : St), (∀ i, i < acc.length → F i = acc.getD i ([], [])) ∧ ARun P rs F l acc.length st stf ∧ K stf ∧
      (∀ j, j < l.length → ∀ i ∈ un.getD (acc.length + j) [], footsApart (F i) (F (acc.length + j)) = true ∨ acc.length + j ≤ i) ∧
      (∀ j o, l[j]? = some o → ∃ r v Δ s, Core P r (F (acc.length + j)) o v Δ s)
  | [], acc, st, h => ⟨fun _ => ⟨[], .tup [], [], [], []⟩, fun i => acc.getD i ([], []), st, fun _ _ => rfl, rfl, h, by simp, by simp⟩
  | o :: l, acc, st, ⟨r, F0, st', hs, hu, hr⟩ => by
    obtain ⟨rs, F, stf, hF, hrun, hK, hap, hco⟩ := RW_run l (acc ++ [F0]) st' hr
    simp only [List.length_append, List.length_cons, List.length_nil, Nat.zero_add] at hF hrun hap hco
    have hFk : F acc.length = F0 := by rw [hF _ (by omega)]; simp
    have hlow : ∀ i, i < acc.length → F i = acc.getD i ([], []) := fun i hi => by rw [hF i (by omega)]; simp [List.getElem?_append_left hi]
    refine ⟨fun k => if k = acc.length then r else rs k, F, stf, hlow, ⟨st', ?_, ?_⟩, hK, ?_, ?_⟩
    · simp only [if_true, hFk]; exact hs
    · have : ∀ (l : List AOper) (k : Nat) (s : St), acc.length < k → ARun P rs F l k s stf → ARun P (fun k => if k = acc.length then r else rs k) F l k s stf := by
        intro l
        induction l with
        | nil => intro k s _ h; exact h
        | cons o l ih =>
          rintro k s hk ⟨s', h1, h2⟩
          exact ⟨s', by simp only [if_neg (show k ≠ acc.length by omega)]; exact h1, ih _ _ (by omega) h2⟩
      exact this l _ _ (by omega) hrun
    · intro j hj i hi
      cases j with
      | zero =>
        simp only [Nat.add_zero] at hi ⊢
        rcases Nat.lt_or_ge i acc.length with h | h
        · left; rw [hFk, hlow i h]; exact hu i hi
        · exact .inr h
      | succ j =>
        have := hap j (by simp at hj; omega) i (by rw [show acc.length + 1 + j = acc.length + (j + 1) by omega]; exact hi)
        rw [show acc.length + 1 + j = acc.length + (j + 1) by omega] at this
        exact this
    · intro j o' hj
      cases j with
      | zero =>
        simp only [List.getElem?_cons_zero, Option.some.injEq] at hj
        subst hj
        obtain ⟨v, Δ, hc, _⟩ := hs
        exact ⟨r, v, Δ, st, by rw [Nat.add_zero, hFk]; exact hc⟩
      | succ j =>
        have := hco j o' (by simpa using hj)
        rw [show acc.length + 1 + j = acc.length + (j + 1) by omega] at this
        exact this

def compReg (P : Program) (N : Nat) (cops : Array Oper) (draw : Bool) : Option (List AOper × List (List Nat)) :=
  (compOps P N cops).bind fun aops =>
    if draw then
      let anc := ancs cops.toList []
      if drawOk cops aops anc then some (aops, if (clashes aops anc).all (·.isEmpty) then [] else clashes aops anc) else none
    else some (aops, [])

theorem region_sound {P : Program} {base : Nat} {G A : Nat → Prop} {w0 : Base} {N : Nat} {st : St} {σ : Nat → Option Nat} {a : Act} {w : World} (hm : P.follows .mixedOrders = true) {id : Nat} {cops : Array Oper} {draw : Bool}
    {aops : List AOper} {un : List (List Nat)} (hc : compReg P N cops draw = some (aops, un)) (R : Rel base G A w0 N st σ a w) {K : St → Prop} (h : RW P un aops [] st K) {Q : Exit → Act → World → Prop}
    (hQ : ∀ st σ a w, K st → Rel base G A w0 N st σ a w → Q .normal a w) : (Code.region id cops draw).wp P Q a w := by
  simp only [compReg, Option.bind_eq_some_iff] at hc
  obtain ⟨aops', hco, hc⟩ := hc
  cases draw with
  | false =>
    simp only [Bool.false_eq_true, if_false, Option.some.injEq, Prod.mk.injEq] at hc
    obtain ⟨rfl, rfl⟩ := hc
    obtain ⟨rs, F, stf, _, hrun, hK, _⟩ := RW_run _ _ _ h
    refine wp_region ?_
    have := wpOps_of_run (Q := Q) hco (fun σ a w R => hQ stf σ a w hK R) aops' 0 st σ a w (fun j => by simp) hrun R
    rw [(compOps_get hco).1] at this
    rwa [List.range_eq_range']
  | true =>
    simp only [if_true] at hc
    split at hc
    · rename_i hok
      simp only [Option.some.injEq, Prod.mk.injEq] at hc
      obtain ⟨rfl, rfl⟩ := hc
      obtain ⟨rs, F, stf, _, hrun, hK, hap, hcore⟩ := RW_run _ _ _ h
      simp only [List.length_nil, Nat.zero_add] at hrun hap hcore
      simp only [drawOk, Bool.and_eq_true, List.all_eq_true, List.mem_range] at hok
      refine wp_region_any hm (wpAny_of_allA (rs := rs) (F := F) hco (fun σ a w R => hQ stf σ a w hK R) cops.size _ st σ a _ ?_ R.drew)
      have hlen := (compOps_get hco).1
      rw [← hlen]
      refine allA_text (anc := fun j => (ancs cops.toList []).getD j []) (ancOk cops) ?_ ?_ aops' 0 _ st (fun j => by simp) (by omega) (by simp [hlen]) ?_ hrun
      · intro k o ho e he hb
        have := hok.1 (o, k) (by rw [List.mem_zipIdx_iff_getElem?]; simpa using ho) e (by simpa using he)
        simpa [hb] using this
      · intro i j oi oj hij hi hj hno
        have hjl : j < aops'.length := (List.getElem?_eq_some_iff.mp hj).1
        obtain ⟨_, _, _, _, ci⟩ := hcore i oi hi
        obtain ⟨_, _, _, _, cj⟩ := hcore j oj hj
        have hs := hok.2 j hjl i hij
        have hno' : ((ancs cops.toList []).getD j []).contains i = false := by simpa using hno
        rw [hno', hi, hj] at hs
        refine apart_of ci cj (by simpa using hs) fun hcl => ?_
        have hmem : i ∈ (clashes aops' (ancs cops.toList [])).getD j [] := by
          simp only [clashes, List.getD_eq_getElem?_getD, List.getElem?_map, List.getElem?_range hjl, Option.map_some, Option.getD_some, List.mem_filter, List.mem_range]
          refine ⟨hij, ?_⟩
          simp only [List.getD_eq_getElem?_getD] at hno'
          simp only [hno', hi, hj, hcl]
          rfl
        have hne : ¬ ((clashes aops' (ancs cops.toList [])).all (·.isEmpty) = true) := by
          intro hall
          have hj' : j < (clashes aops' (ancs cops.toList [])).length := by simp [clashes]; exact hjl
          rw [List.getD_eq_getElem?_getD, List.getElem?_eq_getElem hj', Option.getD_some] at hmem
          have := List.all_eq_true.mp hall _ (List.getElem_mem hj')
          rw [List.isEmpty_iff] at this
          rw [this] at hmem
          simp at hmem
        rw [if_neg hne] at hap
        rcases hap j hjl i hmem with h | h
        · exact h
        · omega
      · intro j hj
        rw [Array.getD_eq_getD_getElem?, Array.getElem?_replicate, if_pos (by omega)]
        simp
    · cases hc
end Go.Ab
