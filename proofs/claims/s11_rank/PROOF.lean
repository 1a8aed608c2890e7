import PyProof.Rows.All
import Wide.All
import OpenK.AllK
import Wide.FinOn
import Open.SpecLaws
import KE.OsHead
import KE.OsGo
import HandS.ForMost
import HandS.Spec
import HandS.Walk
import PySem.Challenge.RW_lanemaps_s11_rank
set_option Elab.async false
set_option linter.all false
set_option maxRecDepth 100000
set_option maxHeartbeats 2000000
/-! lanemaps.lanes.rank: first the mathematics (the specification by Python's numbers), then each def of the program by the hand layer, then the end. -/
namespace Lm
/-- numbers from 0 to 255 -/
def Byt (l : List Int) : Prop := ∀ x ∈ l, 0 ≤ x ∧ x ≤ 255
/-! the line's words -/
theorem list_app (l r : List Int) : Rc03Neutral.list ((l.length : Int) :: (l ++ r)) = some (l, r) := by
  show (if 0 ≤ (l.length : Int) ∧ (l.length : Int).toNat ≤ (l ++ r).length then some ((l ++ r).take (l.length : Int).toNat, (l ++ r).drop (l.length : Int).toNat) else none) = _
  rw [if_pos ⟨Int.natCast_nonneg _, by simp⟩]
  simp
theorem list_end (l : List Int) : Rc03Neutral.list ((l.length : Int) :: l) = some (l, []) := by
  have h := list_app l []
  rw [List.append_nil] at h
  exact h
theorem two_of (a b : List Int) (k : List Int → List Int → Rc03.Call × Bool) : Rc03Neutral.two ((a.length : Int) :: (a ++ ((b.length : Int) :: b))) k = some (k a b) := by
  unfold Rc03Neutral.two
  rw [list_app]
  simp only [Option.bind_some]
  rw [list_end]
  rfl
theorem one_of (a : List Int) (k : List Int → Rc03.Call × Bool) : Rc03Neutral.one ((a.length : Int) :: a) k = some (k a) := by
  unfold Rc03Neutral.one
  rw [list_end]
  rfl
theorem f_of {c : List Int} {q : Rc03.Call × Bool} (h : Rc03Neutral.callOf c = some q) :
    Rc03Neutral.f c = (Rc03.spec q.1).num :: (((Rc03.spec q.1).bytes.map fun b => ((b.toNat : Nat) : Int)) ++ (Rc03.spec q.1).counts.map fun (x : Nat) => (x : Int)) := by
  unfold Rc03Neutral.f
  rw [h]
def ans (s : Rc03.Call) : List Int := (Rc03.spec s).num :: (((Rc03.spec s).bytes.map fun b => ((b.toNat : Nat) : Int)) ++ (Rc03.spec s).counts.map fun (x : Nat) => (x : Int))
theorem apply_ans (m t : List Int) : PyRc03.apply m t = ans (.apply (Rc03Neutral.row m) (Rc03Neutral.row t)) := by
  unfold PyRc03.apply
  refine f_of (q := (.apply (Rc03Neutral.row m) (Rc03Neutral.row t), Rc03Neutral.map m && Rc03Neutral.text t.length t)) ?_
  have e : [0] ++ [(m.length : Int)] ++ m ++ [(t.length : Int)] ++ t ++ [(t.length : Int)] = (0 : Int) :: ((m.length : Int) :: (m ++ ((t.length : Int) :: (t ++ [(t.length : Int)])))) := by simp
  rw [e]
  unfold Rc03Neutral.callOf
  simp only [if_true, list_app, Option.bind_some]
theorem apply64_ans (m t : List Int) : PyRc03.apply64 m t = ans (.apply64 (Rc03Neutral.row m) (Rc03Neutral.row t)) := by
  unfold PyRc03.apply64
  refine f_of (q := (.apply64 (Rc03Neutral.row m) (Rc03Neutral.row t), Rc03Neutral.map m && Rc03Neutral.lanes t)) ?_
  have e : [1] ++ [(m.length : Int)] ++ m ++ [(t.length : Int)] ++ t = (1 : Int) :: ((m.length : Int) :: (m ++ ((t.length : Int) :: t))) := by simp
  rw [e]
  unfold Rc03Neutral.callOf
  simp only [two_of]
  rfl
theorem compose_ans (m t : List Int) : PyRc03.compose m t = ans (.compose (Rc03Neutral.row m) (Rc03Neutral.row t)) := by
  unfold PyRc03.compose
  refine f_of (q := (.compose (Rc03Neutral.row m) (Rc03Neutral.row t), Rc03Neutral.map m && Rc03Neutral.map t)) ?_
  have e : [2] ++ [(m.length : Int)] ++ m ++ [(t.length : Int)] ++ t = (2 : Int) :: ((m.length : Int) :: (m ++ ((t.length : Int) :: t))) := by simp
  rw [e]
  unfold Rc03Neutral.callOf
  simp only [two_of]
  rfl
theorem inverse_ans (m t : List Int) : PyRc03.inverse m t = ans (.inverse (Rc03Neutral.row m) (Rc03Neutral.row t)) := by
  unfold PyRc03.inverse
  refine f_of (q := (.inverse (Rc03Neutral.row m) (Rc03Neutral.row t), Rc03Neutral.map m && Rc03Neutral.map t)) ?_
  have e : [3] ++ [(m.length : Int)] ++ m ++ [(t.length : Int)] ++ t = (3 : Int) :: ((m.length : Int) :: (m ++ ((t.length : Int) :: t))) := by simp
  rw [e]
  unfold Rc03Neutral.callOf
  simp only [two_of]
  rfl
theorem count_ans (t c : List Int) : PyRc03.count t c = ans (.count (Rc03Neutral.row t) (c.map Int.toNat)) := by
  unfold PyRc03.count
  refine f_of (q := (.count (Rc03Neutral.row t) (c.map Int.toNat), Rc03Neutral.text t.length t && Rc03Neutral.counts c)) ?_
  have e : [4] ++ [(t.length : Int)] ++ t ++ [(t.length : Int)] ++ [(c.length : Int)] ++ c = (4 : Int) :: ((t.length : Int) :: (t ++ ((t.length : Int) :: ((c.length : Int) :: c)))) := by simp
  rw [e]
  unfold Rc03Neutral.callOf
  simp only [list_app, Option.bind_some, one_of]
  rfl
theorem move_ans (m t : List Int) : PyRc03.move m t = ans (.move (Rc03Neutral.row m) (Rc03Neutral.row t)) := by
  unfold PyRc03.move
  refine f_of (q := (.move (Rc03Neutral.row m) (Rc03Neutral.row t), Rc03Neutral.lanes m && Rc03Neutral.lanes t)) ?_
  have e : [5] ++ [(m.length : Int)] ++ m ++ [(t.length : Int)] ++ t = (5 : Int) :: ((m.length : Int) :: (m ++ ((t.length : Int) :: t))) := by simp
  rw [e]
  unfold Rc03Neutral.callOf
  simp only [two_of]
  rfl
theorem put_ans (m t : List Int) : PyRc03.put m t = ans (.put (Rc03Neutral.row m) (Rc03Neutral.row t)) := by
  unfold PyRc03.put
  refine f_of (q := (.put (Rc03Neutral.row m) (Rc03Neutral.row t), Rc03Neutral.lanes m && Rc03Neutral.lanes t)) ?_
  have e : [6] ++ [(m.length : Int)] ++ m ++ [(t.length : Int)] ++ t = (6 : Int) :: ((m.length : Int) :: (m ++ ((t.length : Int) :: t))) := by simp
  rw [e]
  unfold Rc03Neutral.callOf
  simp only [two_of]
  rfl
theorem unnamed_ans (p : List Int) : PyRc03.unnamed p = ans (.unnamed (Rc03Neutral.row p)) := by
  unfold PyRc03.unnamed
  refine f_of (q := (.unnamed (Rc03Neutral.row p), Rc03Neutral.lanes p)) ?_
  have e : [7] ++ [(p.length : Int)] ++ p = (7 : Int) :: ((p.length : Int) :: p) := by simp
  rw [e]
  unfold Rc03Neutral.callOf
  simp only [one_of]
  rfl
theorem first_ans (p : List Int) : PyRc03.first p = ans (.first (Rc03Neutral.row p)) := by
  unfold PyRc03.first
  refine f_of (q := (.first (Rc03Neutral.row p), Rc03Neutral.lanes p)) ?_
  have e : [8] ++ [(p.length : Int)] ++ p = (8 : Int) :: ((p.length : Int) :: p) := by simp
  rw [e]
  unfold Rc03Neutral.callOf
  simp only [one_of]
  rfl
theorem before_ans (p : List Int) : PyRc03.before p = ans (.before (Rc03Neutral.row p)) := by
  unfold PyRc03.before
  refine f_of (q := (.before (Rc03Neutral.row p), Rc03Neutral.lanes p)) ?_
  have e : [9] ++ [(p.length : Int)] ++ p = (9 : Int) :: ((p.length : Int) :: p) := by simp
  rw [e]
  unfold Rc03Neutral.callOf
  simp only [one_of]
  rfl
theorem rank_ans (p : List Int) : PyRc03.rank p = ans (.rank (Rc03Neutral.row p)) := by
  unfold PyRc03.rank
  refine f_of (q := (.rank (Rc03Neutral.row p), Rc03Neutral.lanes p)) ?_
  have e : [10] ++ [(p.length : Int)] ++ p = (10 : Int) :: ((p.length : Int) :: p) := by simp
  rw [e]
  unfold Rc03Neutral.callOf
  simp only [one_of]
  rfl
/-! bytes -/
theorem byte_val {x : Int} (h : 0 ≤ x ∧ x ≤ 255) : (UInt8.ofNat x.toNat).toNat = x.toNat := by
  rw [UInt8.toNat_ofNat']
  omega
theorem byte_int {x : Int} (h : 0 ≤ x ∧ x ≤ 255) : (((UInt8.ofNat x.toNat).toNat : Nat) : Int) = x := by
  rw [byte_val h]
  omega
theorem byte_inj {x y : Int} (hx : 0 ≤ x ∧ x ≤ 255) (hy : 0 ≤ y ∧ y ≤ 255) : (UInt8.ofNat x.toNat == UInt8.ofNat y.toNat) = (x == y) := by
  by_cases e : x = y
  · subst e
    simp
  · have n : UInt8.ofNat x.toNat ≠ UInt8.ofNat y.toNat := fun q => e (by rw [← byte_int hx, ← byte_int hy, q])
    rw [beq_eq_false_iff_ne.mpr n, beq_eq_false_iff_ne.mpr e]
theorem byt_getD {l : List Int} (h : Byt l) (i : Nat) : 0 ≤ l.getD i 0 ∧ l.getD i 0 ≤ 255 := by
  rw [List.getD_eq_getElem?_getD]
  cases e : l[i]? with
  | none => exact ⟨Int.le_refl 0, by decide⟩
  | some x => exact h x (List.mem_of_getElem? e)
theorem row_getD (l : List Int) (i : Nat) : (Rc03Neutral.row l).getD i 0 = UInt8.ofNat (l.getD i 0).toNat := by
  unfold Rc03Neutral.row
  rw [List.getD_eq_getElem?_getD, List.getElem?_map, List.getD_eq_getElem?_getD]
  cases l[i]? <;> rfl
/-! 1, 2: maps -/
def mappedF (m t : List Int) : List Int := t.map fun b => m.getD b.toNat 0
theorem has_int {m : List Int} (hm : Byt m) {b : Int} (hb : 0 ≤ b ∧ b ≤ 255) : (((Rc03.has (Rc03Neutral.row m) (UInt8.ofNat b.toNat)).toNat : Nat) : Int) = m.getD b.toNat 0 := by
  unfold Rc03.has
  rw [byte_val hb, row_getD, byte_int (byt_getD hm _)]
theorem mapped_int {m t : List Int} (hm : Byt m) (ht : Byt t) : (((Rc03Neutral.row t).map (Rc03.has (Rc03Neutral.row m))).map fun b => ((b.toNat : Nat) : Int)) = mappedF m t := by
  unfold Rc03Neutral.row mappedF
  rw [List.map_map, List.map_map]
  refine List.map_congr_left fun b hb => ?_
  exact has_int hm (ht b hb)
theorem apply_eq {m t : List Int} (hm : Byt m) (ht : Byt t) : PyRc03.apply m t = [0] ++ mappedF m t := by
  rw [apply_ans, ← mapped_int hm ht]
  simp [ans, Rc03.spec, Rc03.apply]
theorem apply64_eq {m t : List Int} (hm : Byt m) (ht : Byt t) : PyRc03.apply64 m t = [0] ++ mappedF m t := by
  rw [apply64_ans, ← mapped_int hm ht]
  simp [ans, Rc03.spec, Rc03.apply]
theorem compose_eq {m t : List Int} (hm : Byt m) (ht : Byt t) : PyRc03.compose m t = [0] ++ mappedF m t := by
  rw [compose_ans, ← mapped_int hm ht]
  simp [ans, Rc03.spec, Rc03.compose]
end Lm
namespace Lm
/-! lists by their places -/
theorem list_by {l : List Int} {n : Nat} {g : Nat → Int} (hn : l.length = n) (h : ∀ i, i < n → l.getD i 0 = g i) : l = (List.range n).map g := by
  refine List.ext_getElem? fun i => ?_
  rw [List.getElem?_map]
  by_cases hi : i < n
  · have e := h i hi
    rw [List.getD_eq_getElem?_getD] at e
    rw [List.getElem?_range hi]
    have hl : i < l.length := by omega
    rw [List.getElem?_eq_getElem hl] at e ⊢
    exact congrArg some e
  · rw [List.getElem?_eq_none (by omega), List.getElem?_eq_none (by simp; omega)]
    rfl
theorem getD_set {α : Type} (l : List α) (i j : Nat) (x d : α) (hi : i < l.length) : (l.set i x).getD j d = if i = j then x else l.getD j d := by
  rw [List.getD_eq_getElem?_getD, List.getElem?_set, List.getD_eq_getElem?_getD]
  by_cases e : i = j
  · subst e
    simp [hi]
  · simp [e]
theorem getD_rep {α : Type} (n i : Nat) (x d : α) (hi : i < n) : (List.replicate n x).getD i d = x := by
  rw [List.getD_eq_getElem?_getD, List.getElem?_replicate, if_pos hi]
  rfl
theorem range_succ_foldl {α : Type} (f : α → Nat → α) (a : α) (n : Nat) : (List.range (n + 1)).foldl f a = f ((List.range n).foldl f a) n := by
  rw [List.range_succ, List.foldl_append]
  rfl
/-! 4: counts -/
def countStep (f : List Int) (b : Int) : List Int := f.set b.toNat ((f.getD b.toNat 0 + 1) % 4294967296)
def countF (t c : List Int) : List Int := t.foldl countStep c
theorem countStep_len (f : List Int) (b : Int) : (countStep f b).length = f.length := List.length_set
theorem countF_len : ∀ (t c : List Int), (countF t c).length = c.length
  | [], _ => rfl
  | b :: t, c => by
    show (countF t (countStep c b)).length = _
    rw [countF_len t, countStep_len]
theorem countF_at : ∀ (t c : List Int), Byt t → c.length = 256 → (∀ i, 0 ≤ c.getD i 0 ∧ c.getD i 0 < 4294967296) → ∀ y, y < 256 →
    (countF t c).getD y 0 = (c.getD y 0 + ((t.countP fun b => b.toNat == y : Nat) : Int)) % 4294967296
  | [], c, _, _, hc, y, _ => by
    show c.getD y 0 = _
    have := hc y
    simp only [List.countP_nil]
    omega
  | b :: t, c, ht, hl, hc, y, hy => by
    show (countF t (countStep c b)).getD y 0 = _
    have hb := ht b List.mem_cons_self
    have hset : ∀ i, (countStep c b).getD i 0 = if b.toNat = i then (c.getD b.toNat 0 + 1) % 4294967296 else c.getD i 0 := fun i => getD_set _ _ _ _ _ (by omega)
    rw [countF_at t (countStep c b) (fun x hx => ht x (List.mem_cons_of_mem _ hx)) (by rw [countStep_len]; exact hl) (fun i => by
      rw [hset]
      have := hc i
      split <;> omega) y hy, hset, List.countP_cons]
    have := hc y
    by_cases e : b.toNat = y
    · subst e
      simp only [if_true, beq_self_eq_true]
      omega
    · simp only [if_neg e, beq_iff_eq]
      omega
theorem count_row (y : Nat) : ∀ (t : List Int), Byt t → ((Rc03Neutral.row t).countP fun x => x.toNat == y) = t.countP fun b => b.toNat == y
  | [], _ => rfl
  | b :: t, ht => by
    show (UInt8.ofNat b.toNat :: Rc03Neutral.row t).countP _ = _
    rw [List.countP_cons, List.countP_cons, count_row y t fun x hx => ht x (List.mem_cons_of_mem _ hx), byte_val (ht b List.mem_cons_self)]
theorem nat_getD (c : List Int) (i : Nat) : (c.map Int.toNat).getD i 0 = (c.getD i 0).toNat := by
  rw [List.getD_eq_getElem?_getD, List.getElem?_map, List.getD_eq_getElem?_getD]
  cases c[i]? <;> rfl
theorem count_eq {t c : List Int} (ht : Byt t) (hl : c.length = 256) (hc : ∀ x ∈ c, 0 ≤ x ∧ x ≤ 4294967295) : PyRc03.count t c = [0] ++ countF t c := by
  have hc' : ∀ i, 0 ≤ c.getD i 0 ∧ c.getD i 0 < 4294967296 := by
    intro i
    rw [List.getD_eq_getElem?_getD]
    cases e : c[i]? with
    | none => exact ⟨Int.le_refl 0, by decide⟩
    | some x =>
      have := hc x (List.mem_of_getElem? e)
      show 0 ≤ x ∧ x < 4294967296
      omega
  rw [count_ans, list_by (l := countF t c) ((countF_len t c).trans hl) (countF_at t c ht hl hc')]
  simp only [ans, Rc03.spec, Rc03.counted, List.map_nil, List.nil_append, List.map_map, List.cons_append]
  refine congrArg _ (List.map_congr_left fun y _ => ?_)
  simp only [Function.comp]
  rw [count_row y t ht, nat_getD]
  have := hc' y
  omega
/-! 5: move -/
def placeF (p : List Int) (i : Nat) : Nat := (p.getD i 0 % 64).toNat
theorem place_eq {p : List Int} (hp : Byt p) (i : Nat) : Rc03.place (Rc03Neutral.row p) i = placeF p i := by
  unfold Rc03.place Rc03.lane placeF
  have := byt_getD hp i
  rw [row_getD, byte_val this]
  omega
theorem placeF_lt (p : List Int) (i : Nat) : placeF p i < 64 := by
  unfold placeF
  omega
theorem lane_int {v : List Int} (hv : Byt v) (i : Nat) : (((Rc03.lane (Rc03Neutral.row v) i).toNat : Nat) : Int) = v.getD i 0 := by
  unfold Rc03.lane
  rw [row_getD, byte_int (byt_getD hv i)]
def moveF (v p : List Int) : List Int := (List.range 64).map fun i => v.getD (placeF p i) 0
theorem move_eq {v p : List Int} (hv : Byt v) (hp : Byt p) : PyRc03.move v p = [0] ++ moveF v p := by
  rw [move_ans]
  simp only [ans, Rc03.spec, Rc03.move, List.map_map, List.map_nil, List.append_nil, List.cons_append, List.nil_append, moveF]
  refine congrArg _ (List.map_congr_left fun i _ => ?_)
  simp only [Function.comp]
  rw [place_eq hp, lane_int hv]
/-! 6: put -/
/-- a list whose place g i is set to h i, i = 0 .. n - 1 -/
def setAll {α : Type} (g : Nat → Nat) (h : Nat → α) (l : List α) (n : Nat) : List α := (List.range n).foldl (fun f i => f.set (g i) (h i)) l
theorem setAll_succ {α : Type} (g : Nat → Nat) (h : Nat → α) (l : List α) (n : Nat) : setAll g h l (n + 1) = (setAll g h l n).set (g n) (h n) := range_succ_foldl _ _ _
theorem setAll_len {α : Type} (g : Nat → Nat) (h : Nat → α) (l : List α) : ∀ n, (setAll g h l n).length = l.length
  | 0 => rfl
  | n + 1 => by rw [setAll_succ, List.length_set, setAll_len g h l n]
/-- the last of those that name a place -/
def lastOf (g : Nat → Nat) (n k : Nat) : Option Nat := ((List.range n).filter fun i => g i == k).getLast?
theorem lastOf_succ (g : Nat → Nat) (n k : Nat) : lastOf g (n + 1) k = if g n = k then some n else lastOf g n k := by
  unfold lastOf
  rw [List.range_succ, List.filter_append]
  by_cases e : g n = k
  · have _q := e
    simp [e]
  · simp [e]
theorem setAll_at {α : Type} (g : Nat → Nat) (h : Nat → α) (l : List α) (d : α) (k : Nat) : ∀ n, (∀ i, i < n → g i < l.length) →
    (setAll g h l n).getD k d = match lastOf g n k with | some i => h i | none => l.getD k d
  | 0, _ => rfl
  | n + 1, hg => by
    rw [setAll_succ, getD_set _ _ _ _ _ (by rw [setAll_len]; exact hg n (by omega)), lastOf_succ, setAll_at g h l d k n fun i hi => hg i (by omega)]
    by_cases e : g n = k
    · rw [if_pos e, if_pos e]
    · rw [if_neg e, if_neg e]
def putF (v p : List Int) : List Int := setAll (placeF p) (fun i => v.getD i 0) (List.replicate 64 0) 64
theorem putF_len (v p : List Int) : (putF v p).length = 64 := by
  unfold putF
  rw [setAll_len, List.length_replicate]
theorem put_eq {v p : List Int} (hv : Byt v) (hp : Byt p) : PyRc03.put v p = [0] ++ putF v p := by
  rw [put_ans, list_by (putF_len v p) fun k hk => setAll_at (placeF p) (fun i => v.getD i 0) _ 0 k 64 fun i _ => by rw [List.length_replicate]; exact placeF_lt p i]
  simp only [ans, Rc03.spec, Rc03.put, List.map_map, List.map_nil, List.append_nil, List.cons_append, List.nil_append]
  refine congrArg _ (List.map_congr_left fun k hk => ?_)
  simp only [Function.comp]
  have e : ((List.range 64).filter fun i => Rc03.place (Rc03Neutral.row p) i == k).getLast? = lastOf (placeF p) 64 k := by
    unfold lastOf
    refine congrArg _ (List.filter_congr fun i _ => ?_)
    rw [place_eq hp]
  rw [e]
  cases lastOf (placeF p) 64 k with
  | none =>
    rw [getD_rep _ _ _ _ (List.mem_range.mp hk)]
    rfl
  | some i => exact lane_int hv i
/-! 7: masks -/
def maskF (l : List Bool) (n : Nat) : Int := (List.range n).foldl (fun a i => if l.getD i false = true then a + 2 ^ i else a) 0
theorem maskF_succ (l : List Bool) (n : Nat) : maskF l (n + 1) = if l.getD n false = true then maskF l n + 2 ^ n else maskF l n := range_succ_foldl _ _ _
theorem maskF_at {l : List Bool} {f : Nat → Bool} : ∀ n, (∀ i, i < n → l.getD i false = f i) → maskF l n = ((((List.range n).map fun i => if f i = true then 2 ^ i else 0).sum : Nat) : Int)
  | 0, _ => rfl
  | n + 1, h => by
    rw [maskF_succ, maskF_at n fun i hi => h i (by omega), h n (by omega), List.range_succ, List.map_append, List.sum_append, List.map_cons, List.map_nil, List.sum_cons, List.sum_nil]
    cases f n with
    | true =>
      simp only [if_true, Nat.add_zero, Int.natCast_add, Int.natCast_pow]
      rfl
    | false => simp
theorem mask_eq {l : List Bool} {f : Nat → Bool} (h : ∀ i, i < 64 → l.getD i false = f i) : maskF l 64 = ((Rc03.mask f : Nat) : Int) := maskF_at 64 h
def freeF (p : List Int) : List Bool := setAll (placeF p) (fun _ => false) (List.replicate 64 true) 64
theorem lastOf_none (g : Nat → Nat) (k : Nat) : ∀ n, lastOf g n k = none ↔ (∀ i, i < n → g i ≠ k)
  | 0 => ⟨fun _ i h => absurd h (by omega), fun _ => rfl⟩
  | n + 1 => by
    rw [lastOf_succ]
    by_cases e : g n = k
    · rw [if_pos e]
      exact ⟨fun h => (nomatch h), fun h => absurd e (h n (by omega))⟩
    · rw [if_neg e, lastOf_none g k n]
      refine ⟨fun h i hi => ?_, fun h i hi => h i (by omega)⟩
      by_cases q : i = n
      · subst q
        exact e
      · exact h i (by omega)
theorem free_at (p : List Int) (k : Nat) (hk : k < 64) : (freeF p).getD k false = (List.range 64).all fun i => placeF p i != k := by
  unfold freeF
  rw [setAll_at _ _ _ _ _ 64 fun i _ => by rw [List.length_replicate]; exact placeF_lt p i]
  have hn := lastOf_none (placeF p) k 64
  cases e : lastOf (placeF p) 64 k with
  | none =>
    have h := hn.mp e
    rw [getD_rep _ _ _ _ hk]
    refine (List.all_eq_true.mpr fun i hi => ?_).symm
    exact bne_iff_ne.mpr (h i (List.mem_range.mp hi))
  | some j =>
    refine Eq.symm (Bool.eq_false_iff.mpr fun q => ?_)
    have := hn.mpr fun i hi => bne_iff_ne.mp (List.all_eq_true.mp q i (List.mem_range.mpr hi))
    rw [e] at this
    cases this
def unnamedF (p : List Int) : Int := maskF (freeF p) 64
theorem unnamed_eq {p : List Int} (hp : Byt p) : PyRc03.unnamed p = [unnamedF p] := by
  rw [unnamed_ans]
  simp only [ans, Rc03.spec, List.map_nil, List.append_nil]
  refine congrArg (fun x => [x]) ?_
  unfold unnamedF
  rw [mask_eq (free_at p)]
  unfold Rc03.unnamed
  simp only [place_eq hp]
/-! 8, 9, 10: likes and lessers -/
def likeF (v : List Int) (i : Nat) : Nat := ((v.take i).filter fun b => b == v.getD i 0).length
def lessF (v : List Int) (i : Nat) : Nat := (v.filter fun b => decide (b < v.getD i 0)).length
theorem take_by (v : List Int) (i : Nat) (hi : i ≤ v.length) : v.take i = (List.range i).map fun j => v.getD j 0 := by
  refine list_by (by rw [List.length_take]; omega) fun j hj => ?_
  rw [List.getD_eq_getElem?_getD, List.getElem?_take, if_pos hj, List.getD_eq_getElem?_getD]
theorem like_eq {v : List Int} (hv : Byt v) (i : Nat) (hi : i ≤ v.length) : Rc03.equalBefore (Rc03Neutral.row v) i = likeF v i := by
  unfold Rc03.equalBefore likeF
  rw [take_by v i hi, List.filter_map, List.length_map, List.countP_eq_length_filter]
  refine congrArg _ (List.filter_congr fun j _ => ?_)
  unfold Rc03.lane
  rw [row_getD, row_getD, byte_inj (byt_getD hv j) (byt_getD hv i)]
  rfl
theorem less_eq {v : List Int} (hv : Byt v) (hl : v.length = 64) (i : Nat) : Rc03.less (Rc03Neutral.row v) i = lessF v i := by
  have e : v = (List.range 64).map fun j => v.getD j 0 := list_by hl fun _ _ => rfl
  have e2 : lessF v i = (((List.range 64).map fun j => v.getD j 0).filter fun b => decide (b < v.getD i 0)).length := by
    unfold lessF
    rw [← e]
  rw [e2]
  unfold Rc03.less
  rw [List.filter_map, List.length_map, List.countP_eq_length_filter]
  refine congrArg _ (List.filter_congr fun j _ => ?_)
  unfold Rc03.lane
  have h1 := byt_getD hv j
  have h2 := byt_getD hv i
  rw [row_getD, row_getD, byte_val h1, byte_val h2]
  simp only [Function.comp]
  refine decide_eq_decide.mpr ?_
  omega
theorem like_le (v : List Int) (i : Nat) : likeF v i ≤ i := by
  unfold likeF
  refine Nat.le_trans (List.length_filter_le _ _) ?_
  rw [List.length_take]
  omega
theorem less_le (v : List Int) (i : Nat) : lessF v i ≤ v.length := List.length_filter_le _ _
theorem ofNat_small {n : Nat} (h : n < 256) : (UInt8.ofNat n).toNat = n := by
  rw [UInt8.toNat_ofNat']
  omega
def beforeF (v : List Int) : List Int := (List.range 64).map fun i => ((likeF v i : Nat) : Int)
theorem before_eq {v : List Int} (hv : Byt v) (hl : v.length = 64) : PyRc03.before v = [0] ++ beforeF v := by
  rw [before_ans]
  simp only [ans, Rc03.spec, Rc03.before, List.map_map, List.map_nil, List.append_nil, List.cons_append, List.nil_append, beforeF]
  refine congrArg _ (List.map_congr_left fun i hi => ?_)
  have hi' := List.mem_range.mp hi
  simp only [Function.comp]
  have := like_le v i
  rw [like_eq hv i (by omega), ofNat_small (by omega)]
def rankF (v : List Int) : List Int := (List.range 64).map fun i => ((lessF v i : Nat) : Int) + ((likeF v i : Nat) : Int)
theorem rank_eq {v : List Int} (hv : Byt v) (hl : v.length = 64) : PyRc03.rank v = [0] ++ rankF v := by
  rw [rank_ans]
  simp only [ans, Rc03.spec, Rc03.rank, List.map_map, List.map_nil, List.append_nil, List.cons_append, List.nil_append, rankF]
  refine congrArg _ (List.map_congr_left fun i hi => ?_)
  have hi' := List.mem_range.mp hi
  simp only [Function.comp]
  have h1 := like_le v i
  have h2 := less_le v i
  rw [like_eq hv i (by omega), less_eq hv hl, ofNat_small (by omega)]
  omega
def firstF (v : List Int) : Int := maskF ((List.range 64).map fun i => decide (((likeF v i : Nat) : Int) = 0)) 64
theorem first_eq {v : List Int} (hv : Byt v) (hl : v.length = 64) : PyRc03.first v = [firstF v] := by
  rw [first_ans]
  simp only [ans, Rc03.spec, List.map_nil, List.append_nil]
  refine congrArg (fun x => [x]) ?_
  unfold firstF
  rw [mask_eq (f := fun i => (List.range i).all fun j => Rc03.lane (Rc03Neutral.row v) j != Rc03.lane (Rc03Neutral.row v) i)]
  · rfl
  · intro i hi
    rw [List.getD_eq_getElem?_getD, List.getElem?_map, List.getElem?_range hi]
    show decide (((likeF v i : Nat) : Int) = 0) = _
    rw [← like_eq hv i (by omega)]
    unfold Rc03.equalBefore
    rw [Bool.eq_iff_iff, decide_eq_true_eq, List.all_eq_true, Int.natCast_eq_zero, List.countP_eq_zero]
    refine forall_congr' fun j => forall_congr' fun _ => ?_
    rw [bne_iff_ne, beq_iff_eq]
end Lm
namespace Lm
open PySem PySem.Spec PyProof.Rows L2
open PySem.W (Codec)
/-! ### small words of the walk -/
theorem same_upd {H : Hp} {p : Addr} {o : HO} (h : H p = none) : Same H (upd H p o) := fun b x e => (upd_ne (ne_of_none e h)).trans e
theorem same_put {H H' : Hp} {p : Addr} {o : HO} (s : Same H H') (h : H p = none) : Same H (upd H' p o) := fun b x e => (upd_ne (ne_of_none e h)).trans (s b x e)
theorem at_map {α β : Type} {f : α → β} {l : List α} {i : Nat} {y : β} (h : (l.map f)[i]? = some y) : ∃ z, l[i]? = some z ∧ y = f z := by
  rw [List.getElem?_map] at h
  obtain ⟨z, e1, e2⟩ := Option.map_eq_some_iff.mp h
  exact ⟨z, e1, e2.symm⟩
/-- the z-th of a list, by getD -/
theorem at_getD {α : Type} {f : α → V} {m : List α} {z : Int} (d : α) (h : 0 ≤ z) (hl : z < m.length) : atI (m.map f) z = some (f (m.getD z.toNat d)) := by
  refine at_of (j := z.toNat) (by omega) ?_
  rw [List.getElem?_map, List.getD_eq_getElem?_getD, List.getElem?_eq_getElem (by omega)]
  rfl
theorem ix_in {n : Nat} {z : Int} (h0 : 0 ≤ z) (h1 : z < n) : ixN n z = some z.toNat := by
  unfold ixN
  rw [if_pos h0, if_pos h1]
theorem few {n : Nat} (h : n ≤ 100000) : n < sizeLine := Nat.lt_of_le_of_lt h (by decide)
theorem fewE {n : Nat} (h : n ≤ 100000) : n ≤ sizeLine := Nat.le_of_lt (few h)
theorem range_more {β : Type} (f : Nat → β) (i : Nat) : (List.range (i + 1)).map f = (List.range i).map f ++ [f i] := by
  rw [List.range_succ, List.map_append]
  rfl
theorem take_more {α : Type} {l : List α} {i : Nat} {x : α} (h : l[i]? = some x) : l.take (i + 1) = l.take i ++ [x] := by
  rw [List.take_add_one, h]
  rfl
theorem rep_flat {α : Type} (x : α) : ∀ n, (List.replicate n [x]).flatten = List.replicate n x
  | 0 => rfl
  | n + 1 => by
    rw [List.replicate_succ, List.flatten_cons, rep_flat x n]
    rfl
theorem rep_map {α : Type} (f : α → V) (x : α) (n : Nat) : (List.replicate n [f x]).flatten = (List.replicate n x).map f := by
  rw [rep_flat, List.map_replicate]
theorem ints_in {lo hi : Int} {l : List Int} (h : l.all (Codec.inInt lo hi) = true) : ∀ x ∈ l, lo ≤ x ∧ x ≤ hi := fun x hx => Codec.inInt_iff.mp (List.all_eq_true.mp h x hx)
theorem len_is {n : Nat} {α : Type} {l : List α} (h : Codec.inLen n n l = true) : l.length = n := by
  have q := Codec.inNat_iff.mp (show Codec.inNat n n l.length = true from h)
  exact Nat.le_antisymm q.2 q.1
theorem len_most {n : Nat} {α : Type} {l : List α} (h : Codec.inLen 0 n l = true) : l.length ≤ n := (Codec.inNat_iff.mp (show Codec.inNat 0 n l.length = true from h)).2
end Lm
namespace Lm
open PySem PySem.Spec PyProof.Rows L2
open PySem.W (Codec)
/-! ### the text by places -/
def stmtAt (i : Nat) : Stmt := PySem.Challenge.pw_lanemaps_s11_rank.main.body.getD i (.Pass ⟨0, 0, 0, 0⟩)
abbrev s_like_before : Stmt := stmtAt 2
theorem sc_like_before : FnScope ["row", "lane", "byte"] ["row", "lane"] (defScope s_like_before) := ⟨rfl, rfl, rfl, by decide +kernel, rfl, by decide +kernel, by decide +kernel⟩
abbrev s_lesser : Stmt := stmtAt 3
theorem sc_lesser : FnScope ["row", "lane", "byte"] ["row", "lane"] (defScope s_lesser) := ⟨rfl, rfl, rfl, by decide +kernel, rfl, by decide +kernel, by decide +kernel⟩
abbrev s_ranks : Stmt := stmtAt 4
theorem sc_ranks : FnScope ["row", "lane"] ["row"] (defScope s_ranks) := ⟨rfl, rfl, rfl, by decide +kernel, rfl, by decide +kernel, by decide +kernel⟩
abbrev s_rank : Stmt := stmtAt 6
theorem sc_rank : FnScope ["v"] ["v"] (defScope s_rank) := ⟨rfl, rfl, rfl, by decide +kernel, rfl, by decide +kernel, by decide +kernel⟩
section
variable {P : Program} {w : World} {K : PySem.W.Frag} {mg : Str → Option Value} {base : Heap}
/-! ### like_before -/
def spLike_before (K : PySem.W.Frag) : Sp := fun vs H Q _ => ∃ (a : Addr) (v : List Int) (i : Nat), vs = [.ref a, .int i] ∧ SqL K H a (v.map V.int) ∧ v.length = 64 ∧ i < 64 ∧ ∀ H', Same H H' → Q (.int (likeF v i : Nat)) H'
theorem ok_like_before {f : Addr} {fd : FuncData} (F : Fun K "like_before" "like_before" s_like_before f fd) (nL : mg "len" = none) : FnOk P w K mg base CX0 1 f fd ["row", "lane"] (spLike_before K) := by
  refine F.ok sc_like_before (fun vs H Q E h => ?_) (fun cdv A outer s H vs Q E hr h => ?_)
  · obtain ⟨a, v, i, rfl, _⟩ := h
    rfl
  · obtain ⟨a, v, i, rfl, hA, hv, hi, q⟩ := h
    refine ⟨_, pss_one (ps_ret (pe_callB call_len_seq (by rfl) nL PySem.boot_len (pa_cons (pe_lc (own := [("byte", 2)]) (g := gName 2) rfl sc_like_before.nd (pi_list (pe_slice sl_list (pv 0) po_none (po_some (pv 1))))
      (blkOk_by (N := ["row", "lane", "byte"]) (sc := defScope s_like_before) (by decide +kernel))
      (fun _ _ _ _ _ => pg_name (i := 2) sc_like_before.nd rfl (Or.inl rfl)) (fun _ _ _ _ _ => pts_one (pt_cmpR op_eq (pv 2) (pe_ix (r := rIxL K) ix_list (pv 0) (pv 1) (fun _ _ => rfl)) (nomark _)))
      (fun _ _ _ _ _ => pv 2)) pa_nil))), ?_⟩
    refine ⟨.ref a, rfl, .int i, rfl, i, rfl, a, _, rfl, hA, fun c nc => ?_⟩
    have ec : cutV (v.map V.int) none (some (i : Int)) = (v.take i).map V.int := by
      unfold cutV
      rw [HT.sIx_none, HT.sIx_nat, List.length_map, hv, Nat.min_eq_left (by omega), Nat.sub_zero, List.drop_zero, List.map_take]
    rw [ec]
    have s1 : Same H (upd H c (.lst ((v.take i).map V.int))) := same_upd nc
    refine ⟨c, rfl, ⟨_, .of upd_same⟩, fun D nD => lc_list (K := K) (a := c) (xs := (v.take i).map V.int)
      (fun j H' => Same H H' ∧ H' c = some (.lst ((v.take i).map V.int)) ∧ H' D = some (.lst ((((v.take i).take j).filter fun b => b == v.getD i 0).map V.int)))
      ⟨s1.trans (same_upd nD), (upd_ne (ne_of_none upd_same nD)).trans upd_same, upd_same⟩ (fun j H' _ h => .of h.2.1) ?_ ?_⟩
    · rintro j x H' hx ⟨sm, hc, hD⟩
      obtain ⟨z, hz, rfl⟩ := at_map hx
      have nDH : H D = none := s1.free nD
      have ncD : c ≠ D := ne_of_none upd_same nD
      refine ⟨rfl, .int z, rfl, .ref a, rfl, .int i, rfl, a, _, _, _, rfl, rfl, sm.seq hA, at_getD 0 (by omega) (by omega), rfl, _, rfl, ?_⟩
      rw [Int.toNat_natCast, dec_int, take_more hz, List.filter_append]
      cases e : (z == v.getD i 0) with
      | true =>
        refine ⟨.int z, rfl, _, hD, ?_, same_put sm nDH, (upd_ne ncD).trans hc, ?_⟩
        · rw [List.length_map]
          refine few (Nat.le_trans (List.length_filter_le _ _) ?_)
          rw [List.length_take, List.length_take]
          omega
        · rw [upd_same, List.filter_cons, e, if_pos rfl, List.map_append]
          rfl
      | false =>
        refine ⟨sm, hc, ?_⟩
        rw [hD, List.filter_cons, e, if_neg Bool.false_ne_true, List.filter_nil, List.append_nil]
    · rintro H' ⟨sm, hc, hD⟩
      refine ⟨D, _, rfl, .inl (.of hD), ?_⟩
      rw [List.length_map, List.length_map, List.take_length]
      exact q H' sm
/-! ### lesser -/
def spLesser (K : PySem.W.Frag) : Sp := fun vs H Q _ => ∃ (a : Addr) (v : List Int) (i : Nat), vs = [.ref a, .int i] ∧ SqL K H a (v.map V.int) ∧ v.length = 64 ∧ i < 64 ∧ ∀ H', Same H H' → Q (.int (lessF v i : Nat)) H'
theorem ok_lesser {f : Addr} {fd : FuncData} (F : Fun K "lesser" "lesser" s_lesser f fd) (nL : mg "len" = none) : FnOk P w K mg base CX0 1 f fd ["row", "lane"] (spLesser K) := by
  refine F.ok sc_lesser (fun vs H Q E h => ?_) (fun cdv A outer s H vs Q E hr h => ?_)
  · obtain ⟨a, v, i, rfl, _⟩ := h
    rfl
  · obtain ⟨a, v, i, rfl, hA, hv, hi, q⟩ := h
    refine ⟨_, pss_one (ps_ret (pe_callB call_len_seq (by rfl) nL PySem.boot_len (pa_cons (pe_lc (own := [("byte", 2)]) (g := gName 2) rfl sc_lesser.nd (pi_list (pv 0))
      (blkOk_by (N := ["row", "lane", "byte"]) (sc := defScope s_lesser) (by decide +kernel))
      (fun _ _ _ _ _ => pg_name (i := 2) sc_lesser.nd rfl (Or.inl rfl)) (fun _ _ _ _ _ => pts_one (pt_cmpR op_lt (pv 2) (pe_ix (r := rIxL K) ix_list (pv 0) (pv 1) (fun _ _ => rfl)) (nomark _)))
      (fun _ _ _ _ _ => pv 2)) pa_nil))), ?_⟩
    refine ⟨.ref a, rfl, a, rfl, ⟨_, hA⟩, fun D nD => lc_list (K := K) (a := a) (xs := v.map V.int)
      (fun j H' => Same H H' ∧ H' D = some (.lst (((v.take j).filter fun b => decide (b < v.getD i 0)).map V.int)))
      ⟨same_upd nD, upd_same⟩ (fun j H' _ h => h.1.seq hA) ?_ ?_⟩
    · rintro j x H' hx ⟨sm, hD⟩
      obtain ⟨z, hz, rfl⟩ := at_map hx
      refine ⟨rfl, .int z, rfl, .ref a, rfl, .int i, rfl, a, _, _, _, rfl, rfl, sm.seq hA, at_getD 0 (by omega) (by omega), _, _, rfl, rfl, _, rfl, ?_⟩
      rw [Int.toNat_natCast, take_more hz, List.filter_append]
      cases e : decide (z < v.getD i 0) with
      | true =>
        refine ⟨.int z, rfl, _, hD, ?_, same_put sm nD, ?_⟩
        · rw [List.length_map]
          refine few (Nat.le_trans (List.length_filter_le _ _) ?_)
          rw [List.length_take]
          omega
        · rw [upd_same, List.filter_cons, e, if_pos rfl, List.map_append]
          rfl
      | false =>
        refine ⟨sm, ?_⟩
        rw [hD, List.filter_cons, e, if_neg Bool.false_ne_true, List.filter_nil, List.append_nil]
    · rintro H' ⟨sm, hD⟩
      refine ⟨D, _, rfl, .inl (.of hD), ?_⟩
      rw [List.length_map, List.length_map, List.take_length]
      exact q H' sm
/-! ### ranks -/
def spRanks (K : PySem.W.Frag) : Sp := fun vs H Q _ => ∃ (b : Addr) (t : List Int), vs = [.ref b] ∧ SqL K H b (t.map V.int) ∧ t.length = 64 ∧ ∀ H' p, Same H H' → H p = none → H' p = some (.lst ((rankF t).map V.int)) → Q (.ref p) H'
theorem ok_ranks {f fN fM : Addr} {fd fdN fdM : FuncData} (F : Fun K "ranks" "ranks" s_ranks f fd) {tk : Tok} (gL : mg "LANES" = some (.int 64 tk)) (nR : mg "range" = none)
    (GM : FnOk P w K mg base CX0 1 fM fdM ["row", "lane"] (spLesser K)) (gM : mg "lesser" = some (.ref fM)) (kM : PySem.W.keepIn K (.ref fM) = true) (bM : Binds K fdM ["row", "lane"] [])
    (GN : FnOk P w K mg base CX0 1 fN fdN ["row", "lane"] (spLike_before K)) (gN : mg "like_before" = some (.ref fN)) (kN : PySem.W.keepIn K (.ref fN) = true) (bN : Binds K fdN ["row", "lane"] []) : FnOk P w K mg base CX0 2 f fd ["row"] (spRanks K) := by
  refine F.ok sc_ranks (fun vs H Q E h => ?_) (fun cdv A outer s H vs Q E hr h => ?_)
  · obtain ⟨b, t, rfl, _⟩ := h
    rfl
  · obtain ⟨b, t, rfl, hB, ht, q⟩ := h
    refine ⟨_, pss_one (ps_ret (pe_lc (own := [("lane", 1)]) (g := gName 1) (tt := tYes) rfl sc_ranks.nd (pi_range1 (by rfl) nR (pa_cons (pe_glob (v := .int 64) (by rfl) gL ⟨_, rfl⟩) pa_nil))
      (blkOk_by (N := ["row", "lane"]) (sc := defScope s_ranks) (by decide +kernel))
      (fun _ _ _ _ _ => pg_name (i := 1) sc_ranks.nd rfl (Or.inl rfl)) (fun _ _ _ _ _ => pts_nil)
      (fun _ _ _ _ _ => pe_op op_add (pe_call GM hr (by rfl) gM kM bM .nil pass0 (pa_cons (pv 0) (pa_cons (pv 1) pa_nil))) (pe_call GN hr (by rfl) gN kN bN .nil pass0 (pa_cons (pv 0) (pa_cons (pv 1) pa_nil)))))), ?_⟩
    refine ⟨64, rfl, by decide, by decide, fun D nD => lc_range (lo := 0) (n := 64) (fun i H' => Same H H' ∧ H' D = some (.lst ((List.range i).map fun j => V.int ((lessF t j : Nat) + (likeF t j : Nat)))))
      ⟨same_upd nD, upd_same⟩ ?_ ?_⟩
    · rintro i H' hi ⟨sm, hD⟩
      rw [Int.zero_add]
      refine ⟨rfl, ⟨.ref b, rfl, .int i, rfl, b, t, i, rfl, sm.seq hB, ht, hi, fun H2 sm2 => ⟨.ref b, rfl, .int i, rfl, b, t, i, rfl, (sm.trans sm2).seq hB, ht, hi, fun H3 sm3 =>
        ⟨_, _, rfl, rfl, _, sm3 _ _ (sm2 _ _ hD), ?_, same_put ((sm.trans sm2).trans sm3) nD, ?_⟩⟩⟩⟩
      · rw [List.length_map, List.length_range]
        exact few (by omega)
      · rw [upd_same, range_more]
    · rintro H' ⟨sm, hD⟩
      refine q H' D sm nD ?_
      rw [hD]
      unfold rankF
      rw [List.map_map]
      rfl
/-! ### the def that is called -/
def sp_main (K : PySem.W.Frag) : Sp := fun vs H Q _ => ∃ (b : Addr) (t : List Int), vs = [.ref b] ∧ SqL K H b (t.map V.int) ∧ t.length = 64 ∧ (∀ z ∈ t, (0 : Int) ≤ z ∧ z ≤ 255) ∧
  ∀ H' p, H' p = some (.lst ((PyRc03.rank t).map V.int)) → Q (.ref p) H'
theorem ok_main {f fM : Addr} {fd fdM : FuncData} (F : Fun K "rank" "rank" s_rank f fd) (GM : FnOk P w K mg base CX0 2 fM fdM ["row"] (spRanks K)) (gM : mg "ranks" = some (.ref fM)) (kM : PySem.W.keepIn K (.ref fM) = true) (bM : Binds K fdM ["row"] []) :
    FnOk P w K mg base CX0 3 f fd ["v"] (sp_main K) := by
  refine F.ok sc_rank (fun vs H Q E h => ?_) (fun cdv A outer s H vs Q E hr h => ?_)
  · obtain ⟨b, t, rfl, _⟩ := h
    rfl
  · obtain ⟨b, t, rfl, hB, ht, ht2, q⟩ := h
    refine ⟨_, pss_one (ps_ret (pe_op op_cat (pe_lst (pa_cons pe_int pa_nil)) (pe_call GM hr (by rfl) gM kM bM .nil pass0 (pa_cons (pv 0) pa_nil)))), ?_⟩
    refine ⟨fewE (by show 1 ≤ _; decide), fun z nz => ?_⟩
    have s1 : Same H (upd H z (.lst [.int 0])) := same_upd nz
    refine ⟨.ref b, rfl, b, t, rfl, s1.seq hB, ht, fun H' p sm np hp => ?_⟩
    refine ⟨z, p, _, _, rfl, rfl, sm _ _ upd_same, hp, ?_, fun r nr => q _ r ?_⟩
    · have hz := (show (rankF t).length ≤ 2000 by unfold rankF; rw [List.length_map, List.length_range]; omega)
      rw [List.length_map]
      exact fewE (by show 1 + _ ≤ _; omega)
    · rw [upd_same, rank_eq ht2 ht, List.map_append]
      rfl
end
/-! ### what the top has written -/
theorem all_mk {P : Program} {w : World} {K : PySem.W.Frag} {h : Heap} {mg : Str → Option Value} {fa f1 f2 f3 f4 : Addr} (X : K.In h) (G : h.Ns mainGlobals mg) (hfa : mg "rank" = some (.ref fa))
    {od1 an1 od2 an2 od3 an3 od4 an4 : Option Addr} {sl1 sl2 sl3 sl4 : Array (Option Value)} {oc1 kV1 dc1 pm1 cd1 ct1 oc2 kV2 dc2 pm2 cd2 ct2 oc3 kV3 dc3 pm3 cd3 ct3 oc4 kV4 dc4 pm4 cd4 ct4 : Value} {tk_LANES : Tok}
    (a1 : PySem.W.nsIn K mainGlobals "like_before" = some (some (.ref f1))) (l1 : K.lookup f1 = some ⟨oc1, od1, .func (PySem.W.fnOf "like_before" "like_before" (defArgs s_like_before) (defBody s_like_before) (defScope s_like_before) .none kV1 dc1 pm1 an1 cd1 ct1), sl1⟩)
    (c1 : PySem.W.codeIn K cd1 "like_before" = true) (k1 : PySem.W.keepIn K (.ref f1) = true)
    (a2 : PySem.W.nsIn K mainGlobals "lesser" = some (some (.ref f2))) (l2 : K.lookup f2 = some ⟨oc2, od2, .func (PySem.W.fnOf "lesser" "lesser" (defArgs s_lesser) (defBody s_lesser) (defScope s_lesser) .none kV2 dc2 pm2 an2 cd2 ct2), sl2⟩)
    (c2 : PySem.W.codeIn K cd2 "lesser" = true) (k2 : PySem.W.keepIn K (.ref f2) = true)
    (a3 : PySem.W.nsIn K mainGlobals "ranks" = some (some (.ref f3))) (l3 : K.lookup f3 = some ⟨oc3, od3, .func (PySem.W.fnOf "ranks" "ranks" (defArgs s_ranks) (defBody s_ranks) (defScope s_ranks) .none kV3 dc3 pm3 an3 cd3 ct3), sl3⟩)
    (c3 : PySem.W.codeIn K cd3 "ranks" = true) (k3 : PySem.W.keepIn K (.ref f3) = true)
    (a4 : PySem.W.nsIn K mainGlobals "rank" = some (some (.ref f4))) (l4 : K.lookup f4 = some ⟨oc4, od4, .func (PySem.W.fnOf "rank" "rank" (defArgs s_rank) (defBody s_rank) (defScope s_rank) .none kV4 dc4 pm4 an4 cd4 ct4), sl4⟩)
    (c4 : PySem.W.codeIn K cd4 "rank" = true) (k4 : PySem.W.keepIn K (.ref f4) = true)
    (g_LANES : PySem.W.nsIn K mainGlobals "LANES" = some (some (.int 64 tk_LANES)))
    (z_range : PySem.W.nsIn K mainGlobals "range" = some none)
    (z_len : PySem.W.nsIn K mainGlobals "len" = some none)
    : ∃ fd : FuncData, (∀ (s : Shared) (us : List Value), us.length = (["v"] : List Str).length → BindsTo s fd ⟨us, []⟩ ((["v"] : List Str).zip us)) ∧ ∀ base : Heap, K.In base → base.Ns mainGlobals mg → FnOk P w K mg base CX0 3 fa fd ["v"] (sp_main K) := by
  have e := hfa.symm.trans (PySem.W.mg_of X G a4)
  cases e
  have F1 := fun_mk (st := s_like_before) l1 c1 k1
  have F2 := fun_mk (st := s_lesser) l2 c2 k2
  have F3 := fun_mk (st := s_ranks) l3 c3 k3
  have F4 := fun_mk (st := s_rank) l4 c4 k4
  have b1 := F1.binds (ps := ["row", "lane"]) fun _ _ _ _ _ _ us hl => match us, hl with | [_, _], _ => rfl
  have b2 := F2.binds (ps := ["row", "lane"]) fun _ _ _ _ _ _ us hl => match us, hl with | [_, _], _ => rfl
  have b3 := F3.binds (ps := ["row"]) fun _ _ _ _ _ _ us hl => match us, hl with | [_], _ => rfl
  refine ⟨PySem.W.fnOf "rank" "rank" (defArgs s_rank) (defBody s_rank) (defScope s_rank) .none kV4 dc4 pm4 an4 cd4 ct4, fun s us hu => match us, hu with | [_], _ => .of_eq rfl, fun base _ _ => ?_⟩
  have G1 : FnOk P w K mg base CX0 1 f1 _ ["row", "lane"] (spLike_before K) := ok_like_before F1 (PySem.W.mg_none_of X G z_len)
  have G2 : FnOk P w K mg base CX0 1 f2 _ ["row", "lane"] (spLesser K) := ok_lesser F2 (PySem.W.mg_none_of X G z_len)
  have G3 : FnOk P w K mg base CX0 2 f3 _ ["row"] (spRanks K) := ok_ranks F3 (PySem.W.mg_of X G g_LANES) (PySem.W.mg_none_of X G z_range) G2 (PySem.W.mg_of X G a2) F2.kp b2 G1 (PySem.W.mg_of X G a1) F1.kp b1
  exact ok_main F4 G3 (PySem.W.mg_of X G a3) F3.kp b3
end Lm
open PySem PySem.W PyProof.Rows
set_option maxRecDepth 100000 in
set_option maxHeartbeats 8000000 in
theorem PySem.Challenge.cw_lanemaps_s11_rank_holds : PySem.Challenge.rw_lanemaps_s11_rank.Holds := by
  w_on; k_headS; (case hw => exact ⟨[(.list (List.replicate 64 (.int 0)))], by decide +kernel, by decide +kernel⟩)
  k_fillS
  refine L2.walk_specK (r := PySem.Challenge.rw_lanemaps_s11_rank) (k := 3) (CX := L2.CX0) (ps := ["v"]) (sp := Lm.sp_main) (by decide +kernel) rfl rfl ⟨rfl, by decide, by decide⟩ (fun w h Y => PySem.W.kIn_of Y) ?F ?S (fun _ _ _ _ z => z)
  case F =>
    intro w mg fa h Y KX G hmg
    refine' Lm.all_mk KX G hmg ?a1 ?l1 ?c1 ?k1 ?a2 ?l2 ?c2 ?k2 ?a3 ?l3 ?c3 ?k3 ?a4 ?l4 ?c4 ?k4 ?g_LANES ?z_range ?z_len
    (case a1 => k_is)
    (case l1 => k_is)
    (case c1 => k_is)
    (case k1 => k_is)
    (case a2 => k_is)
    (case l2 => k_is)
    (case c2 => k_is)
    (case k2 => k_is)
    (case a3 => k_is)
    (case l3 => k_is)
    (case c3 => k_is)
    (case k3 => k_is)
    (case a4 => k_is)
    (case l4 => k_is)
    (case c4 => k_is)
    (case k4 => k_is)
    (case g_LANES => k_is)
    (case z_range => k_is)
    (case z_len => k_is)
  case S =>
    intro K H xs a hO hwi hask hx
    cases hx with
    | cons h1 h2 =>
      cases h2
      cases h1 with
      | lst hs ha =>
        have e := L2.ints_dw a.1 _ ha
        subst e
        have q : ((Codec.inLen 64 64 a.1 && a.1.all (Codec.inInt 0 255)) && true) = true := hwi
        simp only [Bool.and_eq_true] at q
        exact ⟨_, a.1, rfl, hs, Lm.len_is q.1.1, Lm.ints_in q.1.2, fun H' p hp => .lst (L2.SqL.of hp) (L2.dw_ints _)⟩
#print axioms PySem.Challenge.cw_lanemaps_s11_rank_holds
