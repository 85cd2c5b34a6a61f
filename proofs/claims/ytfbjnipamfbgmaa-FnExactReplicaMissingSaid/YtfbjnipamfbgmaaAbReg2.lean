/- The operations of a region, in the order of the text and in any other. -/
import Derived.Test.YtfbjnipamfbgmaaAbReg1
import Derived.Orders
set_option linter.unusedSimpArgs false
set_option linter.unusedVariables false
namespace Go.Ab

def vis (H : Nat → Option AObj) (k : Nat) : Option AObj := match H k with
  | some o => if o.m = 3 then none else some o
  | none => none

def fre (H : Nat → Option AObj) (k : Nat) : Bool := (H k).isNone && decide (1000 ≤ k)

/-- Is it wanted? -/
def gd (g : Option (Nat × Bool)) (T : Nat → PV) : Option Bool := match g with
  | none => some true
  | some (t, b) => match T t with
    | .l (.v (.bool x)) => some (x == b)
    | .tup [] => some false
    | _ => none

structure AOper where
  dst : Option Nat
  op : AOp
  guard : Option (Nat × Bool)
  deriving Inhabited

def AOper.looks (o : AOper) : List Nat := (match o.guard with
  | some (t, _) => [t]
  | none => []) ++ o.op.slots

/-- An operation's result and what it does to the objects. -/
def Core (P : Program) (r : CallRes) (F : List Nat × List Nat) (o : AOper) (v : PV) (Δ : List (Nat × Option AObj)) (st : St) : Prop :=
  (gd o.guard st.T = some true ∧ ∃ c, sem P r o.op st.T (vis st.H) (fre st.H) (o.dst.getD 0 + 1000) = some (c, v, Δ) ∧ c ∧ foot r o.op st.T (vis st.H) (o.dst.getD 0 + 1000) = F) ∨
  (gd o.guard st.T = some false ∧ v = .tup [] ∧ Δ = [] ∧ F = ([], []))

def AStep (P : Program) (r : CallRes) (F : List Nat × List Nat) (o : AOper) (st st' : St) : Prop := ∃ v Δ, Core P r F o v Δ st ∧ st' = st.put o.dst v Δ

section
variable {P : Program} {r : CallRes} {F : List Nat × List Nat} {o : AOper} {v : PV} {Δ : List (Nat × Option AObj)} {st st2 : St}

theorem gd_eq {g : Option (Nat × Bool)} {T T' : Nat → PV} (h : ∀ s ∈ (match g with
    | some (t, _) => [t]
    | none => []), T s = T' s) : gd g T = gd g T' := by
  cases g with
  | none => rfl
  | some g => obtain ⟨t, b⟩ := g; simp only [gd, h t (by simp)]

theorem Core.keys (h : Core P r F o v Δ st) : ∀ x ∈ Δ, x.1 ∈ F.2 := by
  rcases h with ⟨_, c, hs, _, hf⟩ | ⟨_, _, rfl, _⟩
  · rw [← hf]; exact sem_W hs
  · simp

theorem Core.frame (h : Core P r F o v Δ st) (hT : ∀ s ∈ o.looks, st.T s = st2.T s) (hR : ∀ k ∈ F.1, vis st.H k = vis st2.H k) (hW : ∀ k ∈ F.2, fre st.H k = fre st2.H k) : Core P r F o v Δ st2 := by
  simp only [AOper.looks, List.mem_append] at hT
  have hg := gd_eq (g := o.guard) (T := st.T) (T' := st2.T) fun s hs => hT s (.inl hs)
  have ht : ∀ s ∈ o.op.slots, st.T s = st2.T s := fun s hs => hT s (.inr hs)
  rcases h with ⟨h1, c, hs, hc, hf⟩ | ⟨h1, h2, h3⟩
  · obtain ⟨e1, e2⟩ := sem_ρ (P := P) (r := r) (op := o.op) (T := st.T) (ρ := vis st.H) (ρ' := vis st2.H) (fr := fre st.H) (fr' := fre st2.H) (d := o.dst.getD 0 + 1000) (by rw [hf]; exact hR) (by rw [hf]; exact hW)
    refine .inl ⟨hg ▸ h1, c, ?_, hc, ?_⟩
    · rw [← sem_T ht, ← e1]; exact hs
    · rw [← foot_T ht, ← e2]; exact hf
  · exact .inr ⟨hg ▸ h1, h2, h3⟩

theorem updL_comm {α : Type} {l l' : List (Nat × α)} (h : ∀ x ∈ l, ∀ y ∈ l', x.1 ≠ y.1) : ∀ (f : Nat → α), updL (updL f l) l' = updL (updL f l') l := by
  have up : ∀ (l : List (Nat × α)) (f : Nat → α) (k : Nat) (v : α), (∀ x ∈ l, x.1 ≠ k) → updL (upd f k v) l = upd (updL f l) k v := by
    intro l
    induction l with
    | nil => intro f k v _; rfl
    | cons x l ih =>
      intro f k v hk
      simp only [updL]
      have e : upd (upd f k v) x.1 x.2 = upd (upd f x.1 x.2) k v := by
        have := hk x (by simp)
        funext j; unfold upd
        split <;> split <;> first | rfl | omega
      rw [e, ih _ _ _ fun y hy => hk y (by simp [hy])]
  induction l with
  | nil => intro f; rfl
  | cons x l ih =>
    intro f
    simp only [updL]
    rw [ih (fun a ha => h a (by simp [ha])), up l' _ _ _ fun y hy => (h x (by simp) y hy).symm]

theorem updL_at {α : Type} {l : List (Nat × α)} {f : Nat → α} {k : Nat} (h : ∀ x ∈ l, x.1 ≠ k) : updL f l k = f k := updL_not h

/-- What two operations must keep apart, if each may come first. -/
structure Apart (Fi : List Nat × List Nat) (oi : AOper) (Fj : List Nat × List Nat) (oj : AOper) : Prop where
  t1 : ∀ d, oi.dst = some d → d ∉ oj.looks
  t2 : ∀ d, oi.dst = some d → oj.dst ≠ some d
  t3 : ∀ d, oj.dst = some d → d ∉ oi.looks
  k1 : ∀ k ∈ Fi.2, k ∉ Fj.1
  k2 : ∀ k ∈ Fi.2, k ∉ Fj.2
  k3 : ∀ k ∈ Fj.2, k ∉ Fi.1

theorem put_T {d : Option Nat} {s : Nat} (h : ∀ d', d = some d' → d' ≠ s) : (st.put d v Δ).T s = st.T s := by
  cases d with
  | none => rfl
  | some d => simp only [St.put, upd]; rw [if_neg fun e => h d rfl e.symm]

theorem vis_put {d : Option Nat} {k : Nat} (h : ∀ x ∈ Δ, x.1 ≠ k) : vis (st.put d v Δ).H k = vis st.H k := by
  simp only [St.put, vis, updL_at h]

theorem fre_put {d : Option Nat} {k : Nat} (h : ∀ x ∈ Δ, x.1 ≠ k) : fre (st.put d v Δ).H k = fre st.H k := by
  simp only [St.put, fre, updL_at h]

theorem AStep.swap {ri rj : CallRes} {Fi Fj : List Nat × List Nat} {oi oj : AOper} {st s1 s2 : St} (A : Apart Fi oi Fj oj) (hi : AStep P ri Fi oi st s1) (hj : AStep P rj Fj oj s1 s2) :
    ∃ s, AStep P rj Fj oj st s ∧ AStep P ri Fi oi s s2 := by
  obtain ⟨vi, Δi, ci, rfl⟩ := hi
  obtain ⟨vj, Δj, cj, rfl⟩ := hj
  have ki := ci.keys
  have kj := cj.keys
  have cj' : Core P rj Fj oj vj Δj st := cj.frame (fun s hs => put_T fun d hd e => A.t1 d hd (e ▸ hs))
    (fun k hk => vis_put fun x hx e => A.k1 _ (ki x hx) (e ▸ hk)) (fun k hk => fre_put fun x hx e => A.k2 _ (ki x hx) (e ▸ hk))
  refine ⟨st.put oj.dst vj Δj, ⟨vj, Δj, cj', rfl⟩, vi, Δi, ci.frame (fun s hs => (put_T fun d hd e => A.t3 d hd (e ▸ hs)).symm)
    (fun k hk => (vis_put fun x hx e => A.k3 _ (kj x hx) (e ▸ hk)).symm) (fun k hk => (fre_put fun x hx e => A.k2 k hk (by rw [← e]; exact kj x hx)).symm), ?_⟩
  have hH : updL (updL st.H Δi) Δj = updL (updL st.H Δj) Δi := updL_comm (fun x hx y hy e => A.k2 _ (ki x hx) (e ▸ kj y hy)) _
  have hT := A.t2
  cases hdi : oi.dst with
  | none => simp only [St.put, hH]
  | some di =>
    cases hdj : oj.dst with
    | none => simp only [St.put, hH]
    | some dj =>
      have hne : di ≠ dj := fun e => hT di hdi (by rw [hdj, e])
      simp only [St.put, hH]
      congr 1
      funext j
      simp only [upd]
      split <;> split <;> first | rfl | omega
end

section
variable {P : Program} {cops : Array Oper} {aops : List AOper} {rs : Nat → CallRes} {F : Nat → List Nat × List Nat} {stf : St}

/-- Every order leads to the same state. -/
def AllA (P : Program) (cops : Array Oper) (aops : List AOper) (rs : Nat → CallRes) (F : Nat → List Nat × List Nat) (stf : St) : Nat → Array Bool → St → Prop
  | 0, listed, st => Region.ready .any cops listed = [] ∧ st = stf
  | fuel + 1, listed, st => (Region.ready .any cops listed = [] → st = stf) ∧
      ∀ i ∈ Region.ready .any cops listed, ∃ o st', aops[i]? = some o ∧ AStep P (rs i) (F i) o st st' ∧ AllA P cops aops rs F stf fuel (listed.setIfInBounds i true) st'

/-- The operations that come before, by the edges. -/
def AncOk (cops : Array Oper) (anc : Nat → List Nat) : Prop := ∀ j, ∀ i ∈ anc j, ∃ o e, cops[j]? = some o ∧ e ∈ o.after ∧ Region.binds .any e = true ∧ (i = e.on ∨ i ∈ anc e.on)

def ClosedL (anc : Nat → List Nat) (listed : Array Bool) : Prop := ∀ j, listed.getD j false = true → ∀ i ∈ anc j, listed.getD i false = true

theorem ready_anc {anc : Nat → List Nat} (hA : AncOk cops anc) {listed : Array Bool} (hc : ClosedL anc listed) {j : Nat} (hj : j ∈ Region.ready .any cops listed) : ∀ i ∈ anc j, listed.getD i false = true := by
  intro i hi
  obtain ⟨o, e, ho, he, hb, h⟩ := hA j i hi
  obtain ⟨_, o', ho', hall⟩ := mem_ready.1 hj
  rw [ho] at ho'; cases ho'
  have := hall e he hb
  rcases h with rfl | h
  · exact this
  · exact hc _ this _ h

theorem closed_set {anc : Nat → List Nat} (hA : AncOk cops anc) {listed : Array Bool} (hc : ClosedL anc listed) {j : Nat} (hj : j ∈ Region.ready .any cops listed) : ClosedL anc (listed.setIfInBounds j true) := by
  intro j' hj' i hi
  by_cases e : j = j'
  · subst e; exact getD_set_true (ready_anc hA hc hj i hi)
  · rw [getD_set_ne false e] at hj'
    exact getD_set_true (hc j' hj' i hi)

theorem allA_first {anc : Nat → List Nat} (hA : AncOk cops anc) {i : Nat} {oi : AOper} (hi : aops[i]? = some oi) : ∀ (fuel : Nat) (listed : Array Bool) (st st' : St), ClosedL anc listed →
    (∀ j oj, aops[j]? = some oj → j ≠ i → listed.getD j true = false → i ∉ anc j → Apart (F i) oi (F j) oj) →
    i ∈ Region.ready .any cops listed → AStep P (rs i) (F i) oi st st' → AllA P cops aops rs F stf fuel (listed.setIfInBounds i true) st' → AllA P cops aops rs F stf (fuel + 1) listed st := by
  intro fuel
  induction fuel with
  | zero =>
    intro listed st st' hcl hap hr hs H
    refine ⟨fun h => (by rw [h] at hr; cases hr), fun j hj => ?_⟩
    by_cases hji : j = i
    · subst hji; exact ⟨oi, st', hi, hs, H⟩
    · have := ready_mono hj hji
      rw [H.1] at this
      cases this
  | succ fuel ih =>
    intro listed st st' hcl hap hr hs H
    refine ⟨fun h => (by rw [h] at hr; cases hr), fun j hj => ?_⟩
    by_cases hji : j = i
    · subst hji; exact ⟨oi, st', hi, hs, H⟩
    · obtain ⟨oj, s2, hoj, hsj, Hj⟩ := H.2 j (ready_mono hj hji)
      have hjun := (mem_ready.1 hj).1
      have hiun := (mem_ready.1 hr).1
      have hnot : i ∉ anc j := fun h => by
        have := ready_anc hA hcl hj i h
        rcases Nat.lt_or_ge i listed.size with h' | h'
        · simp [h'] at hiun this; rw [hiun] at this; cases this
        · simp [Array.getElem?_eq_none h'] at hiun
      obtain ⟨s1, h1, h2⟩ := AStep.swap (hap j oj hoj hji hjun hnot) hs hsj
      refine ⟨oj, s1, hoj, h1, ih (listed.setIfInBounds j true) s1 s2 (closed_set hA hcl hj) ?_ (ready_mono hr (Ne.symm hji)) h2 ?_⟩
      · intro k ok hk hki hun hno
        refine hap k ok hk hki ?_ hno
        by_cases hjk : j = k
        · subst hjk; exact hjun
        · rw [getD_set_ne true hjk] at hun; exact hun
      · rw [Array.setIfInBounds_comm _ _ hji]; exact Hj

def ARun (P : Program) (rs : Nat → CallRes) (F : Nat → List Nat × List Nat) : List AOper → Nat → St → St → Prop
  | [], _, st, stf => st = stf
  | o :: l, k, st, stf => ∃ st', AStep P (rs k) (F k) o st st' ∧ ARun P rs F l (k + 1) st' stf

theorem allA_text {anc : Nat → List Nat} (hA : AncOk cops anc) (hback : ∀ (k : Nat) (o : Oper), cops[k]? = some o → ∀ e ∈ o.after, Region.binds .any e = true → e.on < k)
    (hap : ∀ i j oi oj, i < j → aops[i]? = some oi → aops[j]? = some oj → i ∉ anc j → Apart (F i) oi (F j) oj) :
    ∀ (l : List AOper) (k : Nat) (listed : Array Bool) (st : St), (∀ j, l[j]? = aops[k + j]?) → k + l.length = cops.size → listed.size = cops.size → (∀ j, j < cops.size → listed.getD j true = decide (j < k)) →
      ARun P rs F l k st stf → AllA P cops aops rs F stf l.length listed st
  | [], k, listed, st, _, hk, hsz, hl, h => by
    refine ⟨?_, h⟩
    apply List.eq_nil_iff_forall_not_mem.mpr
    intro j hj
    obtain ⟨h0, o, ho, _⟩ := mem_ready.1 hj
    have hlt := (Array.getElem?_eq_some_iff.1 ho).1
    rw [hl j hlt] at h0
    simp at hk
    simp at h0
    omega
  | o :: l, k, listed, st, hl0, hk, hsz, hl, h => by
    obtain ⟨st', hs, hrun⟩ := h
    have h0 : aops[k]? = some o := by simpa using (hl0 0).symm
    simp only [List.length_cons] at hk
    have hgf : ∀ j, j < cops.size → listed.getD j false = decide (j < k) := by
      intro j hj
      have := hl j hj
      rw [Array.getD_eq_getD_getElem?, Array.getElem?_eq_getElem (by omega)] at this ⊢
      exact this
    have hcl : ClosedL anc listed := by
      intro j hj i hi
      have hjs : j < cops.size := by
        rcases Nat.lt_or_ge j cops.size with h | h
        · exact h
        · rw [Array.getD_eq_getD_getElem?, Array.getElem?_eq_none (by omega)] at hj; cases hj
      have hanc : ∀ (n : Nat) (j : Nat), j < n → ∀ i ∈ anc j, i < j := by
        intro n
        induction n with
        | zero => intro j hj; omega
        | succ n ih =>
          intro j hj i hi
          obtain ⟨o, e, ho, he, hb, h⟩ := hA j i hi
          have := hback j o ho e he hb
          rcases h with rfl | h
          · exact this
          · have := ih e.on (by omega) i h; omega
      have hij := hanc (j + 1) j (by omega) i hi
      rw [hgf j hjs] at hj
      rw [hgf i (by omega)]
      simp at hj ⊢
      omega
    have hready : k ∈ Region.ready .any cops listed := by
      have hks : k < cops.size := by omega
      refine mem_ready.2 ⟨by rw [hl k hks]; simp, cops[k], Array.getElem?_eq_getElem hks, fun e he hb => ?_⟩
      have := hback k cops[k] (Array.getElem?_eq_getElem hks) e he hb
      rw [hgf _ (by omega)]
      simpa using this
    have hget : ∀ j, j < cops.size → (listed.setIfInBounds k true).getD j true = decide (j < k + 1) := by
      intro j hj
      by_cases e : k = j
      · subst e
        rw [Array.getD_eq_getD_getElem?, Array.getElem?_setIfInBounds_self_of_lt (by omega)]
        simp
      · rw [getD_set_ne true e, hl j hj]
        simp only [decide_eq_decide]
        omega
    refine allA_first hA h0 l.length listed st st' hcl ?_ hready hs ?_
    · intro j oj hj hji hun hno
      have hjs : j < cops.size := by
        rcases Nat.lt_or_ge j cops.size with h | h
        · exact h
        · exfalso
          rw [Array.getD_eq_getD_getElem?, Array.getElem?_eq_none (by omega)] at hun
          cases hun
      rw [hl j hjs] at hun
      have hkj : k < j := by simp at hun; omega
      exact hap k j o oj hkj h0 hj hno
    · exact allA_text hA hback hap l (k + 1) (listed.setIfInBounds k true) st' (fun j => by have := hl0 (j + 1); simpa [Nat.add_assoc, Nat.add_comm 1 j] using this) (by omega) (by simp [hsz]) hget hrun
end
end Go.Ab
