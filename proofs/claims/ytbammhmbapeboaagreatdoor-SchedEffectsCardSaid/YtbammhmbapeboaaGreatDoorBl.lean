/- The fourth edition: loops by a shape of their states. What a state comes to at a round's beginning is reckoned from the shape; what is left to say is a relation of the words. -/
import Derived.Test.YtbammhmbapeboaaGreatDoorBj
namespace Go.B
open Go
set_option linter.unusedVariables false
set_option linter.unusedSectionVars false

/-- kinds of words -/
inductive ZT where
  | int (k : IntKind) | bool | str | sl (t : Ty) | nat | dat (t : Ty)

@[reducible] def ZT.den : ZT → Type
  | .int _ => Int
  | .bool => Bool
  | .str => ByteArray
  | .sl t => List t.den
  | .nat => Nat
  | .dat t => t.den

def ZT.val : (a : ZT) → a.den → V
  | .int k, n => .int k n
  | .bool, b => .bool b
  | .str, s => .str s
  | .sl t, l => .sl t l none
  | .nat, n => .yld n
  | .dat t, x => .sp t x 0

def castD (a b : Ty) (x : a.den) : Option b.den := if h : a = b then some (h ▸ x) else none

theorem castD_of {a b : Ty} {x : a.den} {y : b.den} (h : castD a b x = some y) : ∃ e : a = b, e ▸ x = y := by
  unfold castD at h
  split at h
  · rename_i e; cases h; exact ⟨e, rfl⟩
  · cases h

def ZT.read : (a : ZT) → V → Option a.den
  | .int k, v => match v with
    | .int k' n => match kindEq k k' with | true => some n | false => none
    | _ => none
  | .bool, v => match v with | .bool b => some b | _ => none
  | .str, v => match v with | .str b => some b | _ => none
  | .sl t, v => match v with
    | .sl t' l c => match c with | none => castL t' t l | some _ => none
    | _ => none
  | .nat, v => match v with | .yld n => some n | _ => none
  | .dat t, v => match v with
    | .sp t' x f => match Nat.beq f 0 with | true => castD t' t x | false => none
    | _ => none

theorem ZT.read_of {a : ZT} {v : V} {x : a.den} (h : a.read v = some x) : a.val x = v := by
  cases a with
  | int k =>
    cases v <;> simp only [ZT.read] at h <;> first | (cases h; done) | skip
    split at h
    · rename_i hk; cases kindEq_of hk; cases h; rfl
    · cases h
  | bool => cases v <;> simp only [ZT.read] at h <;> first | (cases h; done) | (cases h; rfl)
  | str => cases v <;> simp only [ZT.read] at h <;> first | (cases h; done) | (cases h; rfl)
  | nat => cases v <;> simp only [ZT.read] at h <;> first | (cases h; done) | (cases h; rfl)
  | sl t =>
    cases v <;> simp only [ZT.read] at h <;> first | (cases h; done) | skip
    split at h
    · obtain ⟨e, h⟩ := castL_of h
      subst e; cases h; rfl
    · cases h
  | dat t =>
    cases v <;> simp only [ZT.read] at h <;> first | (cases h; done) | skip
    split at h
    · rename_i hf
      obtain ⟨e, h⟩ := castD_of h
      have := Nat.eq_of_beq_eq_true hf
      subst this; subst e; cases h; rfl
    · cases h

@[reducible] def Zs.den : List ZT → Type
  | [] => Unit
  | [a] => a.den
  | a :: b :: l => a.den × Zs.den (b :: l)

def Zs.vals : (l : List ZT) → Zs.den l → List V
  | [], _ => []
  | [a], x => [a.val x]
  | a :: b :: l, x => a.val x.1 :: Zs.vals (b :: l) x.2

def Zs.read : (l : List ZT) → List V → Option (Zs.den l)
  | [], vs => match vs with | [] => some () | _ => none
  | [a], vs => match vs with | [v] => a.read v | _ => none
  | a :: b :: l, vs => match vs with
    | v :: vs => match a.read v with
      | some x => match Zs.read (b :: l) vs with
        | some y => some (x, y)
        | none => none
      | none => none
    | [] => none

theorem Zs.read_of : ∀ {l : List ZT} {vs : List V} {x : Zs.den l}, Zs.read l vs = some x → Zs.vals l x = vs
  | [], vs, x, h => by
    unfold Zs.read at h
    split at h
    · rfl
    · cases h
  | [a], vs, x, h => by
    unfold Zs.read at h
    split at h
    · unfold Zs.vals; rw [ZT.read_of h]
    · cases h
  | a :: b :: l, vs, x, h => by
    unfold Zs.read at h
    split at h
    · split at h
      · rename_i v vs x1 h1
        split at h
        · rename_i y h2
          cases h
          show a.val x1 :: Zs.vals (b :: l) y = _
          rw [ZT.read_of h1, Zs.read_of h2]
        · cases h
      · cases h
    · cases h

/-- words: of the head that is at hand (parameters), those that turn, rooms that stay, rooms -/
inductive Ix where
  | z (i : Nat) | q (i : Nat) | c (i : Nat) | p (i : Nat)

structure W where
  ps : List V
  zs : List V
  qs : List V
  cs : List V

def W.at (w : W) : Ix → V
  | .z i => w.zs.getD i .any
  | .q i => w.qs.getD i .any
  | .c i => w.cs.getD i .any
  | .p i => w.ps.getD i .any

def natV : V → Nat
  | .yld n => n
  | _ => 0

def lenW : V → Nat
  | .sl _ l _ => l.length
  | _ => 0

/-- a number: known, a fresh word, a word that is there -/
inductive NK where
  | lit (n : Nat) | w (i : Nat) | e (x : Ix)

def NK.inst (w : W) : NK → Nat
  | .lit n => n
  | .w i => natV (w.at (.z i))
  | .e x => natV (w.at x)

/-- shapes of values -/
inductive VK where
  | any | nil | nilp | nilf
  | w (i : Nat) | e (x : Ix) | sl (t : Ty) (i : Nat)
  | li (k : IntKind) (n : Int) | lb (b : Bool)
  | ptr (k o : Nat) | gp (g o : Nat) | yld (k : Nat) | slc (k o : Nat) (n c : NK)
  | row (k z : Nat) (l c : Ix) | rs (k z : Nat) (o n c : NK) | rp (k z : Nat) (i : NK) (f : Nat) | sp (t : Ty) (i f : Nat)
  | fn (f : FuncId) (a b : List VK) | agg (l : List VK) | tup (l : List VK)

def spOf (f : Nat) : V → V
  | .sp t x _ => .sp t x f
  | v => v
mutual

def VK.inst (w : W) : VK → V
  | .any => .any
  | .nil => .old (.slice none 0 0)
  | .nilp => .old (.pointer none)
  | .nilf => .old .nilFunc
  | .w i => w.at (.z i)
  | .e x => w.at x
  | .sl _ i => w.at (.z i)
  | .li k n => .int k n
  | .lb b => .bool b
  | .ptr k o => .ptr k o
  | .gp g o => .gp g o
  | .yld k => .yld k
  | .slc k o n c => .slc k o (n.inst w) (c.inst w)
  | .row k z l c => .row k z (lenW (w.at l)) (natV (w.at c))
  | .rs k z o n c => .rs k z (o.inst w) (n.inst w) (c.inst w)
  | .rp k z i f => .rp k z (i.inst w) f
  | .sp _ i f => spOf f (w.at (.z i))
  | .fn f a b => .fn f (VK.insts w a) (VK.insts w b)
  | .agg l => .agg (VK.insts w l)
  | .tup l => .tup (VK.insts w l)

def VK.insts (w : W) : List VK → List V
  | [] => []
  | k :: l => k.inst w :: VK.insts w l
end

abbrev KC := Option Code × Code × Code

/-- what is read: words; what is owed -/
structure Mt where
  ps : List V
  zs : List V
  qs : List V
  cs : List V
  es : List (V × VK)
  ks : List (KC × KC)

def Mt.w (m : Mt) : W := ⟨m.ps, m.zs, m.qs, m.cs⟩

def Mt.pz (m : Mt) (i : Nat) (v : V) : Option Mt := match Nat.beq i m.zs.length with
  | true => some ⟨m.ps, m.zs ++ [v], m.qs, m.cs, m.es, m.ks⟩
  | false => none

def Mt.eq (m : Mt) (v : V) (k : VK) : Mt := ⟨m.ps, m.zs, m.qs, m.cs, m.es ++ [(v, k)], m.ks⟩

/-- a fresh word anywhere -/
def Mt.ix (m : Mt) (v : V) : Ix → Option Mt
  | .z i => m.pz i v
  | .q i => match Nat.beq i m.qs.length with
    | true => some ⟨m.ps, m.zs, m.qs ++ [v], m.cs, m.es, m.ks⟩
    | false => none
  | .c i => match Nat.beq i m.cs.length with
    | true => some ⟨m.ps, m.zs, m.qs, m.cs ++ [v], m.es, m.ks⟩
    | false => none
  | .p i => some (m.eq v (.e (.p i)))

def NK.mt (k : NK) (n : Nat) (m : Mt) : Option Mt := match k with
  | .lit n' => match Nat.beq n n' with | true => some m | false => none
  | .w i => m.pz i (.yld n)
  | .e x => some (m.eq (.yld n) (.e x))

def bindM (m : Option Mt) (f : Mt → Option Mt) : Option Mt := match m with
  | some m => f m
  | none => none
mutual

/-- the same value -/
def VK.mx : VK → V → Mt → Option Mt
  | .any, v, m => match v with | .any => some m | _ => none
  | .nil, v, m => match v with | .old (.slice none 0 0) => some m | _ => none
  | .nilp, v, m => match v with | .old (.pointer none) => some m | _ => none
  | .nilf, v, m => match v with | .old .nilFunc => some m | _ => none
  | .w i, v, m => m.pz i v
  | .e x, v, m => some (m.eq v (.e x))
  | .sl _ i, v, m => m.pz i v
  | .li k n, v, m => match v with
    | .int k' n' => match kindEq k k' && decide (n' = n) with | true => some m | false => none
    | _ => none
  | .lb b, v, m => match v with
    | .bool b' => match decide (b' = b) with | true => some m | false => none
    | _ => none
  | .ptr k o, v, m => match v with
    | .ptr k' o' => match Nat.beq k' k && Nat.beq o' o with | true => some m | false => none
    | _ => none
  | .gp k o, v, m => match v with
    | .gp k' o' => match Nat.beq k' k && Nat.beq o' o with | true => some m | false => none
    | _ => none
  | .yld k, v, m => match v with
    | .yld k' => match Nat.beq k' k with | true => some m | false => none
    | _ => none
  | .slc k o n c, v, m => match v with
    | .slc k' o' n' c' => match Nat.beq k' k && Nat.beq o' o with
      | true => bindM (n.mt n' m) (c.mt c')
      | false => none
    | _ => none
  | .row k z l c, v, m => some (m.eq v (.row k z l c))
  | .rs k z o n c, v, m => match v with
    | .rs k' z' o' n' c' => match Nat.beq k' k && Nat.beq z' z with
      | true => bindM (bindM (o.mt o' m) (n.mt n')) (c.mt c')
      | false => none
    | _ => none
  | .rp k z i f, v, m => match v with
    | .rp k' z' i' f' => match Nat.beq k' k && Nat.beq z' z && Nat.beq f' f with
      | true => i.mt i' m
      | false => none
    | _ => none
  | .sp _ i f, v, m => match v with
    | .sp t' x f' => match Nat.beq f' f with
      | true => m.pz i (.sp t' x 0)
      | false => none
    | _ => none
  | .fn f a b, v, m => match v with
    | .fn f' a' b' => match Nat.beq f' f with
      | true => bindM (VK.mxs a a' m) (VK.mxs b b')
      | false => none
    | _ => none
  | .agg l, v, m => match v with
    | .agg vs => VK.mxs l vs m
    | _ => none
  | .tup l, v, m => match v with
    | .tup vs => VK.mxs l vs m
    | _ => none

def VK.mxs : List VK → List V → Mt → Option Mt
  | [], vs, m => match vs with | [] => some m | _ :: _ => none
  | k :: l, vs, m => match vs with
    | v :: vs => bindM (k.mx v m) (VK.mxs l vs)
    | [] => none
end

/-- a value that tells no more -/
def VK.mt (k : VK) (v : V) (m : Mt) : Option Mt := match k with
  | .any => some m
  | .sl t i => match v with
    | .sl t' l _ => m.pz i (.sl t' l none)
    | v => match nil? v with | true => m.pz i (.sl t [] none) | false => none
  | .row k z l c => match nil? v with
    | true => some (m.eq (.row k z 0 0) (.row k z l c))
    | false => some (m.eq v (.row k z l c))
  | .rs k z o n c => match v with
    | .row k' z' n' c' => match Nat.beq k' k && Nat.beq z' z with
      | true => bindM (bindM (o.mt 0 m) (n.mt n')) (c.mt c')
      | false => none
    | v => (VK.rs k z o n c).mx v m
  | k => k.mx v m

def VK.mts : List VK → List V → Mt → Option Mt
  | [], vs, m => match vs with | [] => some m | _ :: _ => none
  | k :: l, vs, m => match vs with
    | v :: vs => bindM (k.mt v m) (VK.mts l vs)
    | [] => none

/-- shapes of blocks -/
inductive BK where
  | dead | dfr | cells (l : List VK)
  | row (t : Ty) (l : Ix) (T : TypeId) (c : Ix) | ice (t : Ty) (l : Ix) (T : TypeId) (c : Ix)
  | loop (st : LoopState) (pend : Option Code) (f : FuncId) (ps : List Tmp) (assign body : Code) (ts : List (Nat × VK)) (d : Nat)
  | iter (s : VK) (n : NK)

def lsEq : LoopState → LoopState → Bool
  | .ready, .ready | .busy, .busy | .done, .done | .exhausted, .exhausted => true
  | _, _ => false

def natsEq : List Nat → List Nat → Bool
  | [], [] => true
  | a :: l, b :: m => Nat.beq a b && natsEq l m
  | _, _ => false

def instT (w : W) : List (Nat × VK) → List (Nat × V)
  | [] => []
  | (n, k) :: l => (n, k.inst w) :: instT w l

def rowIn (w : W) (t : Ty) (l : Ix) (K : List t.den → Blk) : Blk := match w.at l with
  | .sl t' x _ => match castL t' t x with
    | some x => K x
    | none => .dead
  | _ => .dead

def BK.inst (w : W) : BK → Blk
  | .dead => .dead
  | .dfr => .dfr
  | .cells l => .cells (VK.insts w l)
  | .row t l T c => rowIn w t l fun x => .row t x T (natV (w.at c))
  | .ice t l T c => rowIn w t l fun x => .ice t x T (natV (w.at c))
  | .loop st pend f ps a b ts d => .loop st pend ⟨f, ps, a, b, instT w ts, d⟩
  | .iter s n => match s.inst w with | .str b => .iter b (n.inst w) | _ => .dead

def mtT (ts : List (Nat × V)) : List (Nat × VK) → Mt → Option Mt
  | [], m => some m
  | (n, k) :: l, m => bindM (k.mt (find n ts) m) (mtT ts l)

/-- the words of rows -/
def BK.mrow (k : BK) (b : Option Blk) (m : Mt) : Option Mt := match k with
  | .row t l T c => match b with
    | some (.row t' x T' cp) => match Nat.beq T' T with
      | true => match castL t' t x with
        | some x => bindM (m.ix (.sl t x none) l) fun m => m.ix (.yld cp) c
        | none => none
      | false => none
    | none => bindM (m.ix (.sl t [] none) l) fun m => m.ix (.yld 0) c
    | some .dead => bindM (m.ix (.sl t [] none) l) fun m => m.ix (.yld 0) c
    | _ => none
  | .ice t l T c => match b with
    | some (.ice t' x T' cp) => match Nat.beq T' T with
      | true => match castL t' t x with
        | some x => bindM (m.ix (.sl t x none) l) fun m => m.ix (.yld cp) c
        | none => none
      | false => none
    | _ => none
  | _ => some m

/-- the words of the others -/
def BK.mcell (k : BK) (b : Option Blk) (m : Mt) : Option Mt := match k with
  | .cells l => match b with
    | some (.cells vs) => VK.mts l vs m
    | _ => none
  | .dfr => match b with
    | some .dfr => some m
    | _ => none
  | .loop st pend f ps a b' ts d => match b with
    | some (.loop st' pend' r) => match lsEq st' st && Nat.beq r.f f && natsEq r.ps ps && Nat.beq r.d d with
      | true => mtT r.ts ts ⟨m.ps, m.zs, m.qs, m.cs, m.es, m.ks ++ [((pend', r.assign, r.body), (pend, a, b'))]⟩
      | false => none
    | _ => none
  | .iter s n => match b with
    | some (.iter t pos) => bindM (s.mx (.str t) m) (n.mt pos)
    | _ => none
  | _ => some m

def mtH (f : BK → Option Blk → Mt → Option Mt) : List BK → List Blk → Mt → Option Mt
  | [], _, m => some m
  | k :: l, hp, m => match hp with
    | b :: hp => bindM (f k (some b) m) (mtH f l hp)
    | [] => bindM (f k none m) (mtH f l [])

structure SK where
  ts : List (Nat × VK)
  hp : List BK
  marks : List Nat

def instH (w : W) : List BK → List Blk
  | [] => []
  | k :: l => k.inst w :: instH w l

def SK.inst (k : SK) (w : W) : S := ⟨instT w k.ts, instH w k.hp, k.marks⟩

def SK.mt (k : SK) (ps : List V) (s : S) : Option Mt :=
  bindM (mtH BK.mrow k.hp s.hp ⟨ps, [], [], [], [], []⟩) fun m => bindM (mtH BK.mcell k.hp s.hp m) (mtT s.ts k.ts)

/- that what is read tells of the state -/

/-- m' has read more -/
structure Mt.le (m m' : Mt) : Prop where
  ps : m'.ps = m.ps
  zs : ∀ (i : Nat) (v : V), m.zs[i]? = some v → m'.zs[i]? = some v
  qs : ∀ (i : Nat) (v : V), m.qs[i]? = some v → m'.qs[i]? = some v
  cs : ∀ (i : Nat) (v : V), m.cs[i]? = some v → m'.cs[i]? = some v
  es : ∀ e, e ∈ m.es → e ∈ m'.es
  ks : ∀ e, e ∈ m.ks → e ∈ m'.ks

theorem Mt.le_refl (m : Mt) : m.le m := ⟨rfl, fun _ _ h => h, fun _ _ h => h, fun _ _ h => h, fun _ h => h, fun _ h => h⟩

theorem Mt.le.trans {a b c : Mt} (h : a.le b) (k : b.le c) : a.le c :=
  ⟨k.ps.trans h.ps, fun i v x => k.zs i v (h.zs i v x), fun i v x => k.qs i v (h.qs i v x), fun i v x => k.cs i v (h.cs i v x), fun e x => k.es e (h.es e x), fun e x => k.ks e (h.ks e x)⟩

/-- what is owed holds -/
def Mt.good (m : Mt) : Prop := (∀ e ∈ m.es, e.1 = e.2.inst m.w) ∧ ∀ e ∈ m.ks, e.1 = e.2

theorem getD_of {l : List V} {i : Nat} {v : V} (h : l[i]? = some v) : l.getD i .any = v := by
  rw [List.getD_eq_getElem?_getD, h]; rfl

theorem app_get {l : List V} {v u : V} {i : Nat} (h : l[i]? = some u) : (l ++ [v])[i]? = some u := by
  obtain ⟨h1, h2⟩ := List.getElem?_eq_some_iff.mp h
  rw [List.getElem?_append_left h1]; exact h

theorem Mt.pz_of {m m' : Mt} {i : Nat} {v : V} (h : m.pz i v = some m') : m.le m' ∧ ∀ M : Mt, m'.le M → M.w.at (.z i) = v := by
  unfold Mt.pz at h
  split at h
  · rename_i hi
    cases h
    have := Nat.eq_of_beq_eq_true hi
    subst this
    refine ⟨⟨rfl, fun _ _ h => app_get h, fun _ _ h => h, fun _ _ h => h, fun _ h => h, fun _ h => h⟩, fun M hM => ?_⟩
    exact getD_of (hM.zs _ _ (by simp))
  · cases h

theorem Mt.eq_of {m : Mt} {v : V} {k : VK} : m.le (m.eq v k) ∧ ∀ M : Mt, (m.eq v k).le M → M.good → v = k.inst M.w :=
  ⟨⟨rfl, fun _ _ h => h, fun _ _ h => h, fun _ _ h => h, fun _ h => List.mem_append_left _ h, fun _ h => h⟩, fun M hM hg => hg.1 (v, k) (hM.es _ (by simp [Mt.eq]))⟩

theorem Mt.ix_of {m m' : Mt} {x : Ix} {v : V} (h : m.ix v x = some m') : m.le m' ∧ ∀ M : Mt, m'.le M → M.good → M.w.at x = v := by
  cases x with
  | z i => exact ⟨(Mt.pz_of h).1, fun M hM _ => (Mt.pz_of h).2 M hM⟩
  | q i =>
    simp only [Mt.ix] at h
    split at h
    · rename_i hi
      cases h
      have := Nat.eq_of_beq_eq_true hi
      subst this
      exact ⟨⟨rfl, fun _ _ h => h, fun _ _ h => app_get h, fun _ _ h => h, fun _ h => h, fun _ h => h⟩, fun M hM _ => getD_of (hM.qs _ _ (by simp))⟩
    · cases h
  | c i =>
    simp only [Mt.ix] at h
    split at h
    · rename_i hi
      cases h
      have := Nat.eq_of_beq_eq_true hi
      subst this
      exact ⟨⟨rfl, fun _ _ h => h, fun _ _ h => h, fun _ _ h => app_get h, fun _ h => h, fun _ h => h⟩, fun M hM _ => getD_of (hM.cs _ _ (by simp))⟩
    · cases h
  | p i =>
    cases h
    exact ⟨Mt.eq_of.1, fun M hM hg => (Mt.eq_of.2 M hM hg).symm⟩

theorem NK.mt_of {k : NK} {n : Nat} {m m' : Mt} (h : k.mt n m = some m') : m.le m' ∧ ∀ M : Mt, m'.le M → M.good → k.inst M.w = n := by
  cases k with
  | lit j =>
    simp only [NK.mt] at h
    split at h
    · rename_i hn
      cases h
      exact ⟨Mt.le_refl _, fun M _ _ => (Nat.eq_of_beq_eq_true hn).symm⟩
    · cases h
  | w i =>
    obtain ⟨h1, h2⟩ := Mt.pz_of h
    exact ⟨h1, fun M hM _ => by show natV (M.w.at (.z i)) = n; rw [h2 M hM]; rfl⟩
  | e x =>
    cases h
    exact ⟨Mt.eq_of.1, fun M hM hg => by show natV (M.w.at x) = n; rw [← show V.yld n = M.w.at x from Mt.eq_of.2 M hM hg]; rfl⟩

theorem bindM_of {m : Option Mt} {f : Mt → Option Mt} {m' : Mt} (h : bindM m f = some m') : ∃ m1, m = some m1 ∧ f m1 = some m' := by
  cases m with
  | none => cases h
  | some m1 => exact ⟨m1, rfl, h⟩
mutual

theorem VK.mx_of : ∀ {k : VK} {v : V} {m m' : Mt}, k.mx v m = some m' → m.le m' ∧ ∀ M : Mt, m'.le M → M.good → v = k.inst M.w
  | .any, v, m, m', h => by
    simp only [VK.mx] at h
    split at h
    · cases h; exact ⟨Mt.le_refl _, fun _ _ _ => rfl⟩
    · cases h
  | .nil, v, m, m', h => by
    simp only [VK.mx] at h
    split at h
    · cases h; exact ⟨Mt.le_refl _, fun _ _ _ => rfl⟩
    · cases h
  | .nilp, v, m, m', h => by
    simp only [VK.mx] at h
    split at h
    · cases h; exact ⟨Mt.le_refl _, fun _ _ _ => rfl⟩
    · cases h
  | .nilf, v, m, m', h => by
    simp only [VK.mx] at h
    split at h
    · cases h; exact ⟨Mt.le_refl _, fun _ _ _ => rfl⟩
    · cases h
  | .w i, v, m, m', h => by
    simp only [VK.mx] at h
    exact ⟨(Mt.pz_of h).1, fun M hM _ => ((Mt.pz_of h).2 M hM).symm⟩
  | .e x, v, m, m', h => by
    simp only [VK.mx] at h
    cases h
    exact ⟨Mt.eq_of.1, fun M hM hg => Mt.eq_of.2 M hM hg⟩
  | .sl t i, v, m, m', h => by
    simp only [VK.mx] at h
    exact ⟨(Mt.pz_of h).1, fun M hM _ => ((Mt.pz_of h).2 M hM).symm⟩
  | .li k n, v, m, m', h => by
    simp only [VK.mx] at h
    split at h
    · split at h
      · rename_i hk
        rw [Bool.and_eq_true] at hk
        cases kindEq_of hk.1
        have := of_decide_eq_true hk.2
        subst this
        cases h; exact ⟨Mt.le_refl _, fun _ _ _ => rfl⟩
      · cases h
    · cases h
  | .lb b, v, m, m', h => by
    simp only [VK.mx] at h
    split at h
    · split at h
      · rename_i hk
        have := of_decide_eq_true hk
        subst this
        cases h; exact ⟨Mt.le_refl _, fun _ _ _ => rfl⟩
      · cases h
    · cases h
  | .ptr k o, v, m, m', h => by
    simp only [VK.mx] at h
    split at h
    · split at h
      · rename_i hk
        rw [Bool.and_eq_true] at hk
        have e1 := Nat.eq_of_beq_eq_true hk.1
        have e2 := Nat.eq_of_beq_eq_true hk.2
        subst e1; subst e2
        cases h; exact ⟨Mt.le_refl _, fun _ _ _ => rfl⟩
      · cases h
    · cases h
  | .gp k o, v, m, m', h => by
    simp only [VK.mx] at h
    split at h
    · split at h
      · rename_i hk
        rw [Bool.and_eq_true] at hk
        have e1 := Nat.eq_of_beq_eq_true hk.1
        have e2 := Nat.eq_of_beq_eq_true hk.2
        subst e1; subst e2
        cases h; exact ⟨Mt.le_refl _, fun _ _ _ => rfl⟩
      · cases h
    · cases h
  | .yld k, v, m, m', h => by
    simp only [VK.mx] at h
    split at h
    · split at h
      · rename_i hk
        have e1 := Nat.eq_of_beq_eq_true hk
        subst e1
        cases h; exact ⟨Mt.le_refl _, fun _ _ _ => rfl⟩
      · cases h
    · cases h
  | .slc k o n c, v, m, m', h => by
    simp only [VK.mx] at h
    split at h
    · split at h
      · rename_i hk
        rw [Bool.and_eq_true] at hk
        have e1 := Nat.eq_of_beq_eq_true hk.1
        have e2 := Nat.eq_of_beq_eq_true hk.2
        subst e1; subst e2
        obtain ⟨m1, h1, h2⟩ := bindM_of h
        obtain ⟨l1, k1⟩ := NK.mt_of h1
        obtain ⟨l2, k2⟩ := NK.mt_of h2
        exact ⟨l1.trans l2, fun M hM hg => by simp only [VK.inst]; rw [k1 M (l2.trans hM) hg, k2 M hM hg]⟩
      · cases h
    · cases h
  | .row k z l c, v, m, m', h => by
    simp only [VK.mx] at h
    cases h
    exact ⟨Mt.eq_of.1, fun M hM hg => Mt.eq_of.2 M hM hg⟩
  | .rs k z o n c, v, m, m', h => by
    simp only [VK.mx] at h
    split at h
    · split at h
      · rename_i hk
        rw [Bool.and_eq_true] at hk
        have e1 := Nat.eq_of_beq_eq_true hk.1
        have e2 := Nat.eq_of_beq_eq_true hk.2
        subst e1; subst e2
        obtain ⟨m2, h2, h3⟩ := bindM_of h
        obtain ⟨m1, h1, h2⟩ := bindM_of h2
        obtain ⟨l1, k1⟩ := NK.mt_of h1
        obtain ⟨l2, k2⟩ := NK.mt_of h2
        obtain ⟨l3, k3⟩ := NK.mt_of h3
        exact ⟨(l1.trans l2).trans l3, fun M hM hg => by simp only [VK.inst]; rw [k1 M ((l2.trans l3).trans hM) hg, k2 M (l3.trans hM) hg, k3 M hM hg]⟩
      · cases h
    · cases h
  | .rp k z i f, v, m, m', h => by
    simp only [VK.mx] at h
    split at h
    · split at h
      · rename_i hk
        simp only [Bool.and_eq_true] at hk
        have e1 := Nat.eq_of_beq_eq_true hk.1.1
        have e2 := Nat.eq_of_beq_eq_true hk.1.2
        have e3 := Nat.eq_of_beq_eq_true hk.2
        subst e1; subst e2; subst e3
        obtain ⟨l1, k1⟩ := NK.mt_of h
        exact ⟨l1, fun M hM hg => by simp only [VK.inst]; rw [k1 M hM hg]⟩
      · cases h
    · cases h
  | .sp t i f, v, m, m', h => by
    simp only [VK.mx] at h
    split at h
    · split at h
      · rename_i hk
        have e1 := Nat.eq_of_beq_eq_true hk
        subst e1
        obtain ⟨l1, k1⟩ := Mt.pz_of h
        exact ⟨l1, fun M hM hg => by simp only [VK.inst]; rw [k1 M hM]; rfl⟩
      · cases h
    · cases h
  | .fn f a b, v, m, m', h => by
    simp only [VK.mx] at h
    split at h
    · split at h
      · rename_i hk
        have e1 := Nat.eq_of_beq_eq_true hk
        subst e1
        obtain ⟨m1, h1, h2⟩ := bindM_of h
        obtain ⟨l1, k1⟩ := VK.mxs_of h1
        obtain ⟨l2, k2⟩ := VK.mxs_of h2
        exact ⟨l1.trans l2, fun M hM hg => by simp only [VK.inst]; rw [← k1 M (l2.trans hM) hg, ← k2 M hM hg]⟩
      · cases h
    · cases h
  | .agg l, v, m, m', h => by
    simp only [VK.mx] at h
    split at h
    · obtain ⟨l1, k1⟩ := VK.mxs_of h
      exact ⟨l1, fun M hM hg => by simp only [VK.inst]; rw [← k1 M hM hg]⟩
    · cases h
  | .tup l, v, m, m', h => by
    simp only [VK.mx] at h
    split at h
    · obtain ⟨l1, k1⟩ := VK.mxs_of h
      exact ⟨l1, fun M hM hg => by simp only [VK.inst]; rw [← k1 M hM hg]⟩
    · cases h

theorem VK.mxs_of : ∀ {l : List VK} {vs : List V} {m m' : Mt}, VK.mxs l vs m = some m' → m.le m' ∧ ∀ M : Mt, m'.le M → M.good → vs = VK.insts M.w l
  | [], vs, m, m', h => by
    simp only [VK.mxs] at h
    split at h
    · cases h; exact ⟨Mt.le_refl _, fun _ _ _ => rfl⟩
    · cases h
  | k :: l, vs, m, m', h => by
    simp only [VK.mxs] at h
    split at h
    · obtain ⟨m1, h1, h2⟩ := bindM_of h
      obtain ⟨l1, k1⟩ := VK.mx_of h1
      obtain ⟨l2, k2⟩ := VK.mxs_of h2
      exact ⟨l1.trans l2, fun M hM hg => by simp only [VK.insts]; rw [← k1 M (l2.trans hM) hg, ← k2 M hM hg]⟩
    · cases h
end

theorem VK.mt_of {k : VK} {v : V} {m m' : Mt} (h : k.mt v m = some m') : m.le m' ∧ ∀ M : Mt, m'.le M → M.good → weakV v (k.inst M.w) := by
  have gen : ∀ {k : VK} {m' : Mt}, k.mx v m = some m' → m.le m' ∧ ∀ M : Mt, m'.le M → M.good → weakV v (k.inst M.w) := fun h =>
    ⟨(VK.mx_of h).1, fun M hM hg => .inl ((VK.mx_of h).2 M hM hg).symm⟩
  unfold VK.mt at h
  split at h
  · cases h; exact ⟨Mt.le_refl _, fun _ _ _ => .inr (.inl rfl)⟩
  · rename_i t i
    split at h
    · rename_i t' l c
      obtain ⟨l1, k1⟩ := Mt.pz_of h
      exact ⟨l1, fun M hM hg => .inr (.inr (.inr (.inr ⟨t', l, c, rfl, by simp only [VK.inst]; exact k1 M hM⟩)))⟩
    · split at h
      · rename_i hn
        obtain ⟨l1, k1⟩ := Mt.pz_of h
        exact ⟨l1, fun M hM hg => .inr (.inr (.inl ⟨nil_of hn, .inr ⟨t, by simp only [VK.inst]; exact k1 M hM⟩⟩))⟩
      · cases h
  · rename_i k z l c
    split at h
    · rename_i hn
      cases h
      exact ⟨Mt.eq_of.1, fun M hM hg => .inr (.inr (.inl ⟨nil_of hn, .inl ⟨k, z, (Mt.eq_of.2 M hM hg).symm⟩⟩))⟩
    · cases h
      exact ⟨Mt.eq_of.1, fun M hM hg => .inl (Mt.eq_of.2 M hM hg).symm⟩
  · rename_i k z o n c
    split at h
    · rename_i k' z' n' c'
      split at h
      · rename_i hk
        rw [Bool.and_eq_true] at hk
        have e1 := Nat.eq_of_beq_eq_true hk.1
        have e2 := Nat.eq_of_beq_eq_true hk.2
        subst e1; subst e2
        obtain ⟨m2, h2, h3⟩ := bindM_of h
        obtain ⟨m1, h1, h2⟩ := bindM_of h2
        obtain ⟨l1, k1⟩ := NK.mt_of h1
        obtain ⟨l2, k2⟩ := NK.mt_of h2
        obtain ⟨l3, k3⟩ := NK.mt_of h3
        exact ⟨(l1.trans l2).trans l3, fun M hM hg => .inr (.inr (.inr (.inl ⟨_, _, _, _, rfl, by simp only [VK.inst]; rw [k1 M ((l2.trans l3).trans hM) hg, k2 M (l3.trans hM) hg, k3 M hM hg]⟩)))⟩
      · cases h
    · exact gen h
  · exact gen h

theorem VK.mts_of : ∀ {l : List VK} {vs : List V} {m m' : Mt}, VK.mts l vs m = some m' → m.le m' ∧ ∀ M : Mt, m'.le M → M.good → weakVs vs (VK.insts M.w l)
  | [], vs, m, m', h => by
    simp only [VK.mts] at h
    split at h
    · cases h; exact ⟨Mt.le_refl _, fun _ _ _ => trivial⟩
    · cases h
  | k :: l, vs, m, m', h => by
    simp only [VK.mts] at h
    split at h
    · obtain ⟨m1, h1, h2⟩ := bindM_of h
      obtain ⟨l1, k1⟩ := VK.mt_of h1
      obtain ⟨l2, k2⟩ := VK.mts_of h2
      exact ⟨l1.trans l2, fun M hM hg => ⟨k1 M (l2.trans hM) hg, k2 M hM hg⟩⟩
    · cases h

theorem mtT_of {ts : List (Nat × V)} : ∀ {l : List (Nat × VK)} {m m' : Mt}, mtT ts l m = some m' → m.le m' ∧ ∀ M : Mt, m'.le M → M.good → weakT ts (instT M.w l)
  | [], m, m', h => by
    simp only [mtT] at h
    cases h; exact ⟨Mt.le_refl _, fun _ _ _ => trivial⟩
  | (n, k) :: l, m, m', h => by
    simp only [mtT] at h
    obtain ⟨m1, h1, h2⟩ := bindM_of h
    obtain ⟨l1, k1⟩ := VK.mt_of h1
    obtain ⟨l2, k2⟩ := mtT_of h2
    exact ⟨l1.trans l2, fun M hM hg => ⟨k1 M (l2.trans hM) hg, k2 M hM hg⟩⟩

theorem castL_self {t : Ty} (l : List t.den) : castL t t l = some l := by simp [castL]

/-- a block, or none, as one of a shape -/
def weakO (b : Option Blk) (b' : Blk) : Prop := match b with
  | some b => weakB b b'
  | none => ∃ t T, b' = .row t [] T 0

def isRow : BK → Bool
  | .row _ _ _ _ | .ice _ _ _ _ => true
  | _ => false

theorem BK.mrow_of {k : BK} {b : Option Blk} {m m' : Mt} (h : k.mrow b m = some m') : m.le m' ∧ ∀ M : Mt, m'.le M → M.good → isRow k = true → weakO b (k.inst M.w) := by
  cases k with
  | dead => cases h; exact ⟨Mt.le_refl _, fun _ _ _ h => by cases h⟩
  | dfr => cases h; exact ⟨Mt.le_refl _, fun _ _ _ h => by cases h⟩
  | cells l => cases h; exact ⟨Mt.le_refl _, fun _ _ _ h => by cases h⟩
  | loop => cases h; exact ⟨Mt.le_refl _, fun _ _ _ h => by cases h⟩
  | iter => cases h; exact ⟨Mt.le_refl _, fun _ _ _ h => by cases h⟩
  | row t l T c =>
    have two : ∀ {x : List t.den} {cp : Nat}, (bindM (m.ix (.sl t x none) l) fun m => m.ix (.yld cp) c) = some m' → m.le m' ∧ ∀ M : Mt, m'.le M → M.good → (BK.row t l T c).inst M.w = .row t x T cp := by
      intro x cp h
      obtain ⟨m1, h1, h2⟩ := bindM_of h
      obtain ⟨l1, k1⟩ := Mt.ix_of h1
      obtain ⟨l2, k2⟩ := Mt.ix_of h2
      refine ⟨l1.trans l2, fun M hM hg => ?_⟩
      simp only [BK.inst, rowIn]
      rw [k1 M (l2.trans hM) hg, k2 M hM hg]
      simp only [castL_self, natV]
    simp only [BK.mrow] at h
    split at h
    · split at h
      · rename_i hT
        have := Nat.eq_of_beq_eq_true hT
        subst this
        split at h
        · rename_i hx
          obtain ⟨e, hx⟩ := castL_of hx
          subst e; cases hx
          exact ⟨(two h).1, fun M hM hg _ => .inl ((two h).2 M hM hg)⟩
        · cases h
      · cases h
    · exact ⟨(two h).1, fun M hM hg _ => ⟨t, T, (two h).2 M hM hg⟩⟩
    · exact ⟨(two h).1, fun M hM hg _ => .inr (.inr (.inl ⟨t, T, (two h).2 M hM hg⟩))⟩
    · cases h
  | ice t l T c =>
    have two : ∀ {x : List t.den} {cp : Nat}, (bindM (m.ix (.sl t x none) l) fun m => m.ix (.yld cp) c) = some m' → m.le m' ∧ ∀ M : Mt, m'.le M → M.good → (BK.ice t l T c).inst M.w = .ice t x T cp := by
      intro x cp h
      obtain ⟨m1, h1, h2⟩ := bindM_of h
      obtain ⟨l1, k1⟩ := Mt.ix_of h1
      obtain ⟨l2, k2⟩ := Mt.ix_of h2
      refine ⟨l1.trans l2, fun M hM hg => ?_⟩
      simp only [BK.inst, rowIn]
      rw [k1 M (l2.trans hM) hg, k2 M hM hg]
      simp only [castL_self, natV]
    simp only [BK.mrow] at h
    split at h
    · split at h
      · rename_i hT
        have := Nat.eq_of_beq_eq_true hT
        subst this
        split at h
        · rename_i hx
          obtain ⟨e, hx⟩ := castL_of hx
          subst e; cases hx
          exact ⟨(two h).1, fun M hM hg _ => .inl ((two h).2 M hM hg)⟩
        · cases h
      · cases h
    · cases h

theorem lsEq_of {a b : LoopState} (h : lsEq a b = true) : a = b := by cases a <;> cases b <;> first | rfl | cases h

theorem natsEq_of : ∀ {a b : List Nat}, natsEq a b = true → a = b
  | [], [], _ => rfl
  | [], _ :: _, h => by cases h
  | _ :: _, [], h => by cases h
  | a :: l, b :: m, h => by
    simp only [natsEq, Bool.and_eq_true] at h
    rw [Nat.eq_of_beq_eq_true h.1, natsEq_of h.2]

theorem BK.mcell_of {k : BK} {b : Option Blk} {m m' : Mt} (h : k.mcell b m = some m') : m.le m' ∧ ∀ M : Mt, m'.le M → M.good → isRow k = false → k = .dead ∨ weakO b (k.inst M.w) := by
  cases k with
  | dead => cases h; exact ⟨Mt.le_refl _, fun _ _ _ _ => .inl rfl⟩
  | row => cases h; exact ⟨Mt.le_refl _, fun _ _ _ h => by cases h⟩
  | ice => cases h; exact ⟨Mt.le_refl _, fun _ _ _ h => by cases h⟩
  | dfr =>
    simp only [BK.mcell] at h
    split at h
    · cases h; exact ⟨Mt.le_refl _, fun _ _ _ _ => .inr (.inl rfl)⟩
    · cases h
  | cells l =>
    simp only [BK.mcell] at h
    split at h
    · obtain ⟨l1, k1⟩ := VK.mts_of h
      exact ⟨l1, fun M hM hg _ => .inr (.inr (.inr (.inr (k1 M hM hg))))⟩
    · cases h
  | iter s n =>
    simp only [BK.mcell] at h
    split at h
    · rename_i t pos
      obtain ⟨m1, h1, h2⟩ := bindM_of h
      obtain ⟨l1, k1⟩ := VK.mx_of h1
      obtain ⟨l2, k2⟩ := NK.mt_of h2
      refine ⟨l1.trans l2, fun M hM hg _ => .inr (.inl ?_)⟩
      simp only [BK.inst]
      rw [← k1 M (l2.trans hM) hg, k2 M hM hg]
    · cases h
  | loop st pend f ps a b' ts d =>
    simp only [BK.mcell] at h
    split at h
    · rename_i st' pend' r
      split at h
      · rename_i hk
        simp only [Bool.and_eq_true] at hk
        obtain ⟨l1, k1⟩ := mtT_of h
        have l0 : m.le ⟨m.ps, m.zs, m.qs, m.cs, m.es, m.ks ++ [((pend', r.assign, r.body), (pend, a, b'))]⟩ := ⟨rfl, fun _ _ h => h, fun _ _ h => h, fun _ _ h => h, fun _ h => h, fun _ h => List.mem_append_left _ h⟩
        refine ⟨l0.trans l1, fun M hM hg _ => .inr (.inr (.inr (.inr ?_)))⟩
        have e := hg.2 ((pend', r.assign, r.body), (pend, a, b')) (hM.ks _ (l1.ks _ (by simp)))
        simp only [Prod.mk.injEq] at e
        exact ⟨(lsEq_of hk.1.1.1).symm, e.1.symm, (Nat.eq_of_beq_eq_true hk.1.1.2).symm, (natsEq_of hk.1.2).symm, e.2.1.symm, e.2.2.symm, (Nat.eq_of_beq_eq_true hk.2).symm, k1 M hM hg⟩
      · cases h
    · cases h

theorem mtH_of {f : BK → Option Blk → Mt → Option Mt} {R : Option Blk → BK → Mt → Prop} (hf : ∀ k b m m', f k b m = some m' → m.le m' ∧ ∀ M : Mt, m'.le M → M.good → R b k M) :
    ∀ {l : List BK} {hp : List Blk} {m m' : Mt}, mtH f l hp m = some m' → m.le m' ∧ ∀ M : Mt, m'.le M → M.good → ∀ (i : Nat) (k : BK), l[i]? = some k → R hp[i]? k M
  | [], hp, m, m', h => by
    simp only [mtH] at h
    cases h; exact ⟨Mt.le_refl _, fun _ _ _ i k h => by simp at h⟩
  | k :: l, hp, m, m', h => by
    simp only [mtH] at h
    split at h
    · obtain ⟨m1, h1, h2⟩ := bindM_of h
      obtain ⟨l1, k1⟩ := hf _ _ _ _ h1
      obtain ⟨l2, k2⟩ := mtH_of hf h2
      refine ⟨l1.trans l2, fun M hM hg i k' hi => ?_⟩
      cases i with
      | zero => simp at hi; subst hi; simpa using k1 M (l2.trans hM) hg
      | succ i => simpa using k2 M hM hg i k' (by simpa using hi)
    · obtain ⟨m1, h1, h2⟩ := bindM_of h
      obtain ⟨l1, k1⟩ := hf _ _ _ _ h1
      obtain ⟨l2, k2⟩ := mtH_of hf h2
      refine ⟨l1.trans l2, fun M hM hg i k' hi => ?_⟩
      cases i with
      | zero => simp at hi; subst hi; simpa using k1 M (l2.trans hM) hg
      | succ i => simpa using k2 M hM hg i k' (by simpa using hi)

theorem weakH_of {w : W} : ∀ {l : List BK} {hp : List Blk}, (∀ (i : Nat) (k : BK), l[i]? = some k → weakO hp[i]? (k.inst w)) → weakH hp (instH w l)
  | [], hp, _ => by cases hp <;> exact trivial
  | k :: l, [], h => ⟨by simpa [weakO] using h 0 k rfl, weakH_of fun i k' hi => by simpa using h (i + 1) k' (by simpa using hi)⟩
  | k :: l, b :: hp, h => ⟨by simpa [weakO] using h 0 k rfl, weakH_of fun i k' hi => by simpa using h (i + 1) k' (by simpa using hi)⟩

def noDeadEnd : List BK → List Blk → Bool
  | .dead :: _, [] => false
  | _ :: l, [] => noDeadEnd l []
  | _ :: l, _ :: hp => noDeadEnd l hp
  | [], _ => true

theorem noDeadEnd_of : ∀ {l : List BK} {hp : List Blk}, noDeadEnd l hp = true → ∀ i : Nat, l[i]? = some BK.dead → ∃ b, hp[i]? = some b
  | [], hp, _, i, h => by simp at h
  | k :: l, [], h, i, hi => by
    cases i with
    | zero => simp at hi; subst hi; cases h
    | succ i =>
      have h' : noDeadEnd l [] = true := by cases k <;> first | exact h | cases h
      obtain ⟨b, hb⟩ := noDeadEnd_of h' i (by simpa using hi)
      simp at hb
  | k :: l, b :: hp, h, i, hi => by
    have h' : noDeadEnd l hp = true := by cases k <;> exact h
    cases i with
    | zero => exact ⟨b, rfl⟩
    | succ i =>
      obtain ⟨b, hb⟩ := noDeadEnd_of h' i (by simpa using hi)
      exact ⟨b, by simpa using hb⟩

theorem SK.mt_of {k : SK} {ps : List V} {s : S} {m : Mt} (h : k.mt ps s = some m) (hd : noDeadEnd k.hp s.hp = true) (hg : m.good) : m.ps = ps ∧ weakT s.ts (k.inst m.w).ts ∧ weakH s.hp (k.inst m.w).hp := by
  unfold SK.mt at h
  obtain ⟨m1, h1, h⟩ := bindM_of h
  obtain ⟨m2, h2, h3⟩ := bindM_of h
  obtain ⟨l1, k1⟩ := mtH_of (R := fun b k M => isRow k = true → weakO b (k.inst M.w)) (fun _ _ _ _ h => BK.mrow_of h) h1
  obtain ⟨l2, k2⟩ := mtH_of (R := fun b k M => isRow k = false → k = .dead ∨ weakO b (k.inst M.w)) (fun _ _ _ _ h => BK.mcell_of h) h2
  obtain ⟨l3, k3⟩ := mtT_of h3
  refine ⟨by rw [l3.ps, l2.ps, l1.ps], k3 m (Mt.le_refl _) hg, weakH_of fun i b hi => ?_⟩
  cases hr : isRow b with
  | true => exact k1 m (l2.trans l3) hg i b hi hr
  | false =>
    rcases k2 m l3 hg i b hi hr with e | e
    · subst e
      obtain ⟨b, hb⟩ := noDeadEnd_of hd i hi
      rw [hb]
      exact .inr (.inl rfl)
    · exact e

/- blocks of other numbers -/
mutual

def bindV : VK → V → List (Nat × Nat) → List (Nat × Nat)
  | .ptr k _, v, a => match v with | .ptr k' _ => (k, k') :: a | _ => a
  | .yld k, v, a => match v with | .yld k' => (k, k') :: a | _ => a
  | .slc k _ _ _, v, a => match v with | .slc k' _ _ _ => (k, k') :: a | _ => a
  | .row k _ _ _, v, a => match v with | .row k' _ _ _ => (k, k') :: a | _ => a
  | .rs k _ _ _ _, v, a => match v with | .rs k' _ _ _ _ => (k, k') :: a | .row k' _ _ _ => (k, k') :: a | _ => a
  | .rp k _ _ _, v, a => match v with | .rp k' _ _ _ => (k, k') :: a | _ => a
  | .fn _ x y, v, a => match v with | .fn _ x' y' => bindVs y y' (bindVs x x' a) | _ => a
  | .agg l, v, a => match v with | .agg l' => bindVs l l' a | _ => a
  | .tup l, v, a => match v with | .tup l' => bindVs l l' a | _ => a
  | _, _, a => a

def bindVs : List VK → List V → List (Nat × Nat) → List (Nat × Nat)
  | [], _, a => a
  | k :: l, vs, a => match vs with | v :: vs => bindVs l vs (bindV k v a) | [] => a
end

def bindT (ts : List (Nat × V)) : List (Nat × VK) → List (Nat × Nat) → List (Nat × Nat)
  | [], a => a
  | (n, k) :: l, a => bindT ts l (bindV k (find n ts) a)

def bindB (k : BK) (b : Option Blk) : List (Nat × Nat) := match k with
  | .cells l => match b with | some (.cells vs) => bindVs l vs [] | _ => []
  | .loop _ _ _ _ _ _ ts d => match b with | some (.loop _ _ r) => bindT r.ts ts [(d, r.d)] | _ => []
  | _ => []

/-- where the blocks lie -/
def walkB (k : List BK) (hp : List Blk) : Nat → List (Nat × Nat) → List (Nat × Nat) → List (Nat × Nat)
  | 0, _, a => a
  | f + 1, todo, a => match todo with
    | [] => a
    | (i, j) :: todo => match assoc i a with
      | some _ => walkB k hp f todo a
      | none => walkB k hp f (match k[i]? with | some b => bindB b hp[j]? ++ todo | none => todo) ((i, j) :: a)

def idN : Nat → List (Nat × Nat)
  | 0 => []
  | n + 1 => idN n ++ [(n, n)]

def sigma (N : Nat) (k : SK) (s : S) : List (Option Nat) := match s.hp with
  | [] => []
  | _ => let a := walkB k.hp s.hp 400 (idN N ++ bindT s.ts k.ts []) []
    (List.range k.hp.length).map fun i => assoc i a

def sg (l : List (Option Nat)) : List Nat := l.map fun x => x.getD 0

def deadK : BK → Bool
  | .dead => true
  | _ => false

/-- the number of a block, among those that are not dead before others -/
def invAt (i : Nat) : List BK → List (Option Nat) → Nat → Nat → Nat
  | k :: l, x :: xs, j, d => match x with
    | some n => match Nat.beq n i with
      | true => match deadK k with
        | false => j
        | true => invAt i l xs (j + 1) j
      | false => invAt i l xs (j + 1) d
    | none => invAt i l xs (j + 1) d
  | _, _, _, d => d

def inv (n : Nat) (k : List BK) (l : List (Option Nat)) : List Nat := (List.range n).map fun i => invAt i k l 0 0

/-- a number that comes back -/
def backN (σ τ : List Nat) (k : Nat) : Bool := Nat.beq (σ.getD (τ.getD k 0) 0) k
mutual

def backV (σ τ : List Nat) : V → Bool
  | .ptr k _ => backN σ τ k
  | .slc k _ _ _ => backN σ τ k
  | .yld k => backN σ τ k
  | .row k _ _ _ => backN σ τ k
  | .rs k _ _ _ _ => backN σ τ k
  | .rp k _ _ _ => backN σ τ k
  | .mp k => backN σ τ k
  | .fn _ a b => backVs σ τ a && backVs σ τ b
  | .agg l => backVs σ τ l
  | .tup l => backVs σ τ l
  | _ => true

def backVs (σ τ : List Nat) : List V → Bool
  | [] => true
  | v :: l => backV σ τ v && backVs σ τ l
end
mutual

theorem backV_of {σ τ : List Nat} : ∀ {v : V}, backV σ τ v = true → renV σ (renV τ v) = v
  | .any, _ => rfl
  | .bool _, _ => rfl
  | .int _ _, _ => rfl
  | .str _, _ => rfl
  | .gp _ _, _ => rfl
  | .old _, _ => rfl
  | .sl _ _ _, _ => rfl
  | .sp _ _ _, _ => rfl
  | .nw _ _ _, _ => rfl
  | .ptr k o, h => by simp only [backV, backN] at h; simp only [renV]; rw [Nat.eq_of_beq_eq_true h]
  | .slc k _ _ _, h => by simp only [backV, backN] at h; simp only [renV]; rw [Nat.eq_of_beq_eq_true h]
  | .yld k, h => by simp only [backV, backN] at h; simp only [renV]; rw [Nat.eq_of_beq_eq_true h]
  | .row k _ _ _, h => by simp only [backV, backN] at h; simp only [renV]; rw [Nat.eq_of_beq_eq_true h]
  | .rs k _ _ _ _, h => by simp only [backV, backN] at h; simp only [renV]; rw [Nat.eq_of_beq_eq_true h]
  | .rp k _ _ _, h => by simp only [backV, backN] at h; simp only [renV]; rw [Nat.eq_of_beq_eq_true h]
  | .mp k, h => by simp only [backV, backN] at h; simp only [renV]; rw [Nat.eq_of_beq_eq_true h]
  | .fn f a b, h => by
    simp only [backV, Bool.and_eq_true] at h
    simp only [renV]; rw [backVs_of h.1, backVs_of h.2]
  | .agg l, h => by simp only [backV] at h; simp only [renV]; rw [backVs_of h]
  | .tup l, h => by simp only [backV] at h; simp only [renV]; rw [backVs_of h]

theorem backVs_of {σ τ : List Nat} : ∀ {l : List V}, backVs σ τ l = true → renVs σ (renVs τ l) = l
  | [], _ => rfl
  | v :: l, h => by
    simp only [backVs, Bool.and_eq_true] at h
    simp only [renVs]; rw [backV_of h.1, backVs_of h.2]
end

def backT (σ τ : List Nat) : List (Nat × V) → Bool
  | [] => true
  | (_, v) :: l => backV σ τ v && backT σ τ l

theorem backT_of {σ τ : List Nat} : ∀ {l : List (Nat × V)}, backT σ τ l = true → renT σ (renT τ l) = l
  | [], _ => rfl
  | (n, v) :: l, h => by
    simp only [backT, Bool.and_eq_true] at h
    simp only [renT]; rw [backV_of h.1, backT_of h.2]

def backB (σ τ : List Nat) : Blk → Bool
  | .cells vs => backVs σ τ vs
  | .loop _ _ r => backT σ τ r.ts && backN σ τ r.d
  | .map _ es => es.all fun e => backV σ τ e.2
  | _ => true

theorem backB_of {σ τ : List Nat} {b : Blk} (h : backB σ τ b = true) : renB σ (renB τ b) = b := by
  cases b with
  | cells vs => simp only [backB] at h; simp only [renB]; rw [backVs_of h]
  | map kd es =>
    simp only [backB] at h
    simp only [renB, List.map_map]
    congr 1
    induction es with
    | nil => rfl
    | cons e es ih =>
      simp only [List.all_cons, Bool.and_eq_true] at h
      simp only [List.map_cons, Function.comp]
      rw [backV_of h.1]
      congr 1
      exact ih h.2
  | loop st pend r =>
    simp only [backB, backN, Bool.and_eq_true] at h
    simp only [renB]; rw [backT_of h.1, Nat.eq_of_beq_eq_true h.2]
  | _ => rfl

/-- temporaries, as the shape names them, by new numbers -/
def rnT (σ τ : List Nat) (ts : List (Nat × V)) : List (Nat × VK) → List (Nat × V)
  | [] => []
  | (n, _) :: l => match backV σ τ (find n ts) with
    | true => (n, renV τ (find n ts)) :: rnT σ τ ts l
    | false => rnT σ τ ts l

theorem rnT_of {σ τ : List Nat} {ts : List (Nat × V)} : ∀ {l : List (Nat × VK)}, renEq σ ts (rnT σ τ ts l)
  | [] => trivial
  | (n, k) :: l => by
    simp only [rnT]
    split
    · rename_i h; exact ⟨(backV_of h).symm, rnT_of⟩
    · exact rnT_of

def rnH (σ τ : List Nat) (hp : List Blk) : List BK → List (Option Nat) → List Blk
  | k :: l, x :: xs => (match x with
    | none => .dead
    | some i => match deadK k with
      | true => .dead
      | false => match hp[i]? with
        | some b => match backB σ τ b with | true => renB τ b | false => .dead
        | none => .dead) :: rnH σ τ hp l xs
  | _, _ => []

theorem rnH_of {σ τ : List Nat} {hp : List Blk} : ∀ {l : List BK} {xs : List (Option Nat)}, blkEq σ hp (sg xs) (rnH σ τ hp l xs)
  | [], xs => by cases xs <;> simp [rnH, blkEq, sg]
  | k :: l, [] => by simp [rnH, blkEq, sg]
  | k :: l, x :: xs => by
    simp only [rnH, sg, List.map_cons, blkEq]
    refine ⟨?_, rnH_of⟩
    cases x with
    | none => exact .inl rfl
    | some i =>
      simp only [Option.getD_some]
      cases deadK k with
      | true => exact .inl rfl
      | false =>
        simp only
        cases hb : hp[i]? with
        | none => exact .inl rfl
        | some b =>
          simp only
          cases hk : backB σ τ b with
          | true => exact .inr (by rw [backB_of hk])
          | false => exact .inl rfl

def rnS (k : SK) (xs : List (Option Nat)) (s : S) : S :=
  ⟨rnT (sg xs) (inv s.hp.length k.hp xs) s.ts k.ts, rnH (sg xs) (inv s.hp.length k.hp xs) s.hp k.hp xs, s.marks.map ((inv s.hp.length k.hp xs).getD · 0)⟩

def rnOk (N : Nat) (k : SK) (xs : List (Option Nat)) (s s1 : S) : Bool :=
  Nat.beq xs.length s1.hp.length && Nat.ble N xs.length && natsEq ((sg xs).take N) (List.range N) && ((sg xs).all fun k => Nat.blt k s.hp.length) && nodupA (sg xs) s1.hp &&
  (s.marks.all (backN (sg xs) (inv s.hp.length k.hp xs))) && (inNT s1.hp.length s1.ts && inNH s1.hp.length s1.hp && inNM s1.hp.length s1.marks)

theorem map_back {σ τ : List Nat} : ∀ {l : List Nat}, l.all (backN σ τ) = true → l = (l.map (τ.getD · 0)).map (σ.getD · 0)
  | [], _ => rfl
  | k :: l, h => by
    simp only [List.all_cons, Bool.and_eq_true] at h
    simp only [List.map_cons]
    rw [← map_back h.2, Nat.eq_of_beq_eq_true h.1]

theorem rn_of {N : Nat} {k : SK} {xs : List (Option Nat)} {s : S} (h : rnOk N k xs s (rnS k xs s) = true) : reno N s (rnS k xs s) := by
  unfold rnOk at h
  simp only [Bool.and_eq_true] at h
  obtain ⟨⟨⟨⟨⟨⟨h1, h2⟩, h3⟩, h4⟩, h5⟩, h6⟩, h7⟩ := h
  refine .inr ⟨sg xs, ?_, ?_, natsEq_of h3, h4, h5, rnT_of, rnH_of, map_back h6, ?_⟩
  · rw [show (sg xs).length = xs.length by simp [sg]]; exact Nat.eq_of_beq_eq_true h1
  · rw [show (sg xs).length = xs.length by simp [sg]]; exact h2
  · simp only [Bool.and_eq_true]; exact h7

/-- what is read of a state, once its blocks have the shape's numbers -/
def leftOver (k : SK) (s : S) : List Nat := s.marks.filter fun m => !(k.marks.any (Nat.beq m))

def fitOk (N : Nat) (k : SK) (s1 : S) (m : Mt) : Bool :=
  noDeadEnd k.hp s1.hp && natsEq k.marks s1.marks && Nat.ble N k.hp.length &&
  (Nat.ble s1.hp.length k.hp.length || (inNT k.hp.length (k.inst m.w).ts && inNH k.hp.length (k.inst m.w).hp && inNM k.hp.length k.marks))

def fit1 (N : Nat) (k : SK) (ps : List V) (s1 : S) : Option Mt := match k.mt ps s1 with
  | some m => match fitOk N k s1 m with | true => some m | false => none
  | none => none

def fit0 (N : Nat) (k : SK) (ps : List V) (s0 : S) : Option Mt := match rnOk N k (sigma N k s0) s0 (rnS k (sigma N k s0) s0) with
  | true => fit1 N k ps (rnS k (sigma N k s0) s0)
  | false => none

def fit (N : Nat) (k : SK) (ps : List V) (s : S) : Option Mt := match forgetOk (leftOver k s) s.hp with
  | true => fit0 N k ps (forgot (leftOver k s) s)
  | false => none

theorem instH_len {w : W} : ∀ l : List BK, (instH w l).length = l.length
  | [] => rfl
  | _ :: l => by simp [instH, instH_len l]

theorem fit_of {N : Nat} {k : SK} {ps : List V} {s : S} {m : Mt} (h : fit N k ps s = some m) (hg : m.good) : m.ps = ps ∧ wk N s (k.inst m.w) := by
  unfold fit at h
  split at h
  · rename_i hf
    unfold fit0 at h
    split at h
    · rename_i hr
      unfold fit1 at h
      split at h
      · rename_i m' hm
        split at h
        · rename_i ho
          cases h
          unfold fitOk at ho
          simp only [Bool.and_eq_true] at ho
          obtain ⟨⟨⟨o1, o2⟩, o3⟩, o4⟩ := ho
          obtain ⟨e, a, b⟩ := SK.mt_of hm o1 hg
          refine ⟨e, ⟨_, _, ⟨_, hf, rfl⟩, rn_of hr, .inr ⟨a, b, natsEq_of o2, ?_, ?_⟩⟩⟩
          · show Nat.ble N (instH m.w k.hp).length = true
            rw [instH_len]; exact o3
          · show (Nat.ble _ (instH m.w k.hp).length || (inNT (instH m.w k.hp).length _ && inNH (instH m.w k.hp).length _ && inNM (instH m.w k.hp).length _)) = true
            rw [instH_len]; exact o4
        · cases h
      · cases h
    · cases h
  · cases h

/-- what is owed of the words -/
def owe (w : W) (es : List (V × VK)) (ks : List (KC × KC)) (X : Prop) : Prop := match es with
  | [] => match ks with
    | [] => X
    | k :: ks => ((k :: ks).map (·.1) = (k :: ks).map (·.2)) ∧ X
  | e :: es => (((e :: es).map (·.1) = (e :: es).map (·.2.inst w)) ∧ ks.map (·.1) = ks.map (·.2)) ∧ X

theorem map_ends {α β : Type} {f g : α → β} : ∀ {l : List α}, l.map f = l.map g → ∀ e ∈ l, f e = g e
  | [], _, e, h => by simp at h
  | a :: l, h, e, he => by
    simp only [List.map_cons, List.cons.injEq] at h
    rcases List.mem_cons.mp he with rfl | he
    · exact h.1
    · exact map_ends h.2 e he

theorem owe_iff {w : W} {es : List (V × VK)} {ks : List (KC × KC)} {X : Prop} : owe w es ks X ↔ ((∀ e ∈ es, e.1 = e.2.inst w) ∧ ∀ e ∈ ks, e.1 = e.2) ∧ X := by
  have m1 : ∀ l : List (V × VK), (∀ e ∈ l, e.1 = e.2.inst w) ↔ l.map (·.1) = l.map (·.2.inst w) := fun l => ⟨fun h => List.map_congr_left h, map_ends⟩
  have m2 : ∀ l : List (KC × KC), (∀ e ∈ l, e.1 = e.2) ↔ l.map (·.1) = l.map (·.2) := fun l => ⟨fun h => List.map_congr_left h, map_ends⟩
  cases es with
  | nil =>
    cases ks with
    | nil => simp [owe]
    | cons k ks => rw [m1, m2]; simp only [owe, List.map_nil, true_and]
  | cons e es => rw [m1, m2]; simp only [owe]

def atS (N : Nat) (k : SK) (ps : List V) (s : S) (K : W → Prop) : Prop := match fit N k ps s with
  | some m => owe m.w m.es m.ks (K m.w)
  | none => False

/-- the words of a state -/
def AtW (N : Nat) (k : SK) (ps : List V) (s : S) (w : W) : Prop := ∃ m, fit N k ps s = some m ∧ m.good ∧ w = m.w

theorem atS_iff {N : Nat} {k : SK} {ps : List V} {s : S} {K : W → Prop} : atS N k ps s K ↔ ∃ w, AtW N k ps s w ∧ K w := by
  unfold atS AtW
  cases hf : fit N k ps s with
  | none => simp
  | some m =>
    simp only [owe_iff]
    constructor
    · exact fun ⟨h1, h2⟩ => ⟨m.w, ⟨m, rfl, h1, rfl⟩, h2⟩
    · rintro ⟨w, ⟨m', e, h1, rfl⟩, h2⟩
      cases e
      exact ⟨h1, h2⟩

theorem AtW.wk {N : Nat} {k : SK} {ps : List V} {s : S} {w : W} (h : AtW N k ps s w) : w.ps = ps ∧ wk N s (k.inst w) := by
  obtain ⟨m, h1, h2, rfl⟩ := h
  exact fit_of h1 h2

/- loops -/

/-- a way out: where to, the shape of its states, its words, its rooms -/
structure XK where
  q : Ret
  sk : SK
  yT : List ZT
  cT : List ZT
  /-- how the loops around stand (where the same way out is taken by states of more than one shape) -/
  tag : Option (List Nat)

structure LK where
  N : Nat
  sk : SK
  zT : List ZT
  qT : List ZT
  cT : List ZT
  pi : List Nat
  xs : List XK

@[reducible] def Ys.den : List XK → Type
  | [] => Empty
  | [x] => Zs.den x.yT
  | x :: y :: l => Zs.den x.yT ⊕ Ys.den (y :: l)

def retEq : Ret → Ret → Bool
  | .normal, .normal => true
  | .ret, .ret => true
  | .exit i, .exit j => Nat.beq i j
  | _, _ => false

theorem retEq_of {a b : Ret} (h : retEq a b = true) : a = b := by
  cases a <;> cases b <;> first | rfl | (cases h; done) | (exact congrArg Ret.exit (Nat.eq_of_beq_eq_true h))

def loopTag : Blk → Option Nat
  | .loop .ready _ _ => some 0
  | .loop .busy _ _ => some 1
  | .loop _ (some .ret) _ => some 3
  | .loop _ (some (.exit i)) _ => some (4 + i)
  | .loop _ _ _ => some 2
  | _ => none

def tags : Nat → List Blk → List Nat
  | 0, _ => []
  | _, [] => []
  | n + 1, b :: l => match loopTag b with
    | some k => k :: tags n l
    | none => tags n l

def tagEq : List Nat → List Nat → Bool
  | [], [] => true
  | a :: l, b :: m => match Nat.beq a b with | true => tagEq l m | false => false
  | _, _ => false

/-- is this the way out? -/
def XK.here (N : Nat) (x : XK) (q : Ret) (s : S) : Bool := match retEq q x.q with
  | true => match x.tag with
    | none => true
    | some t => tagEq (tags N s.hp) t
  | false => false

theorem here_of {N : Nat} {x : XK} {q : Ret} {s : S} (h : x.here N q s = true) : q = x.q := by
  unfold XK.here at h
  split at h
  · rename_i hq; exact retEq_of hq
  · cases h

/-- the words of an end -/
def endK (N : Nat) (x : XK) (ps : List V) (s : S) (P : Zs.den x.yT → Prop) : Prop :=
  atS N x.sk ps s fun w => match Zs.read x.yT w.zs, Zs.read x.cT w.cs, w.qs with
    | some y, some _, [] => P y
    | _, _, _ => False

def toX (N : Nat) (ps : List V) : (xs : List XK) → (Ys.den xs → Prop) → Ret → S → Prop
  | [], _, _, _ => False
  | [x], P, q, s => match x.here N q s with
    | true => endK N x ps s P
    | false => False
  | x :: x' :: l, P, q, s => match x.here N q s with
    | true => endK N x ps s fun y => P (.inl y)
    | false => toX N ps (x' :: l) (fun y => P (.inr y)) q s

/-- whatever the rooms are -/
def allC (l : List ZT) (X : List V → Prop) : Prop := match l with
  | [] => X []
  | a :: l => ∀ c : Zs.den (a :: l), X (Zs.vals (a :: l) c)

def ofX (ps : List V) : (xs : List XK) → Ys.den xs → (Ret → S → Prop) → Prop
  | [], _, _ => False
  | [x], y, K => allC x.cT fun c => K x.q (x.sk.inst ⟨ps, Zs.vals x.yT y, [], c⟩)
  | x :: x' :: l, y, K => sume (fun y => allC x.cT fun c => K x.q (x.sk.inst ⟨ps, Zs.vals x.yT y, [], c⟩)) (fun y => ofX ps (x' :: l) y K) y

theorem allC_get {l : List ZT} {X : List V → Prop} (h : allC l X) (c : Zs.den l) : X (Zs.vals l c) := by
  cases l with
  | nil => exact h
  | cons a l => exact h c

theorem endK_of {N : Nat} {x : XK} {ps : List V} {s : S} {P : Zs.den x.yT → Prop} (h : endK N x ps s P) : ∃ y c, P y ∧ wk N s (x.sk.inst ⟨ps, Zs.vals x.yT y, [], Zs.vals x.cT c⟩) := by
  obtain ⟨w, h1, h2⟩ := atS_iff.mp h
  obtain ⟨e, h3⟩ := h1.wk
  split at h2
  · rename_i y c k1 k2 k3
    refine ⟨y, c, h2, ?_⟩
    rw [Zs.read_of k1, Zs.read_of k2, ← e, ← k3]
    exact h3
  · exact h2.elim

theorem toX_of {N : Nat} {ps : List V} {K : Ret → S → Prop} : ∀ {xs : List XK} {P : Ys.den xs → Prop} {q : Ret} {s : S}, toX N ps xs P q s → ∃ y, P y ∧ (ofX ps xs y K → ∃ s', wk N s s' ∧ K q s')
  | [], P, q, s, h => h.elim
  | [x], P, q, s, h => by
    unfold toX at h
    split at h
    · rename_i hq
      cases here_of hq
      obtain ⟨y, c, h1, h2⟩ := endK_of h
      exact ⟨y, h1, fun hK => ⟨_, h2, allC_get hK c⟩⟩
    · exact h.elim
  | x :: x' :: l, P, q, s, h => by
    unfold toX at h
    split at h
    · rename_i hq
      cases here_of hq
      obtain ⟨y, c, h1, h2⟩ := endK_of h
      exact ⟨.inl y, h1, fun hK => ⟨_, h2, allC_get (X := fun c => K x.q (x.sk.inst ⟨ps, Zs.vals x.yT y, [], c⟩)) hK c⟩⟩
    · obtain ⟨y, h1, h2⟩ := toX_of (xs := x' :: l) h
      exact ⟨.inr y, h1, fun hK => h2 hK⟩

/-- rooms that stay -/
def stay (a b : List V) (X : Prop) : Prop := match a with
  | [] => match b with | [] => X | _ :: _ => False
  | _ :: _ => a = b ∧ X

theorem stay_of {a b : List V} {X : Prop} (h : stay a b X) : a = b ∧ X := by
  cases a with
  | nil => cases b with
    | nil => exact ⟨rfl, h⟩
    | cons => exact h.elim
  | cons => exact h

theorem stay_self {a : List V} {X : Prop} (h : X) : stay a a X := by
  cases a with
  | nil => exact h
  | cons => exact ⟨rfl, h⟩

/-- the head's words, as they are read -/
def headK (lk : LK) (s : S) (P : Zs.den lk.zT → Zs.den lk.qT → Prop) : Prop :=
  atS lk.N lk.sk [] s fun w => match Zs.read lk.zT w.zs, Zs.read lk.qT w.qs, Zs.read lk.cT w.cs with
    | some z, some q, some _ => P z q
    | _, _, _ => False

theorem headK_iff {lk : LK} {s : S} {P : Zs.den lk.zT → Zs.den lk.qT → Prop} : headK lk s P ↔ ∃ w z q c, AtW lk.N lk.sk [] s w ∧ Zs.read lk.zT w.zs = some z ∧ Zs.read lk.qT w.qs = some q ∧ Zs.read lk.cT w.cs = some c ∧ P z q := by
  unfold headK
  rw [atS_iff]
  constructor
  · rintro ⟨w, h1, h2⟩
    split at h2
    · rename_i z q c k1 k2 k3
      exact ⟨w, z, q, c, h1, k1, k2, k3, h2⟩
    · exact h2.elim
  · rintro ⟨w, z, q, c, h1, k1, k2, k3, h2⟩
    exact ⟨w, h1, by rw [k1, k2, k3]; exact h2⟩

/-- what does not turn -/
def LK.prm (lk : LK) (z : Zs.den lk.zT) (q : Zs.den lk.qT) : List V := (lk.pi.map fun i => (Zs.vals lk.zT z).getD i .any) ++ Zs.vals lk.qT q

/-- where the next round begins -/
def nextK (lk : LK) (ps : List V) (L : Zs.den lk.zT → Prop) (s : S) : Prop :=
  headK lk s fun z' q' => stay (lk.prm z' q') ps (L z')

/-- what is owed of a loop -/
def loopK (lk : LK) (L : Zs.den lk.zT → Ys.den lk.xs → Prop) (s : S) (K : Ret → S → Prop) : Prop := match Nat.beq s.hp.length lk.N with
  | true => headK lk s fun z q => ∃ y, L z y ∧ ofX (lk.prm z q) lk.xs y K
  | false => False

theorem loop_of {c : Cx} {fid : FuncId} {cv : CV} {ok : Nat → Nat → Bool} {lp : Nat → Nat → Lp} {rd : Option Nat} {a : Code} {lk : LK} {l : Nat → Zs.den lk.zT → Ys.den lk.xs → Prop}
    (h0 : ∀ z y, ¬ l 0 z y)
    (round : ∀ k z q cc y, l (k + 1) z y → acode c fid cv ok lp rd a (iterK (toX lk.N (lk.prm z q) lk.xs (· = y)) (nextK lk (lk.prm z q) fun z' => l k z' y)) (lk.sk.inst ⟨[], Zs.vals lk.zT z, Zs.vals lk.qT q, Zs.vals lk.cT cc⟩)) :
    ∀ K s, loopK lk (fun z y => ∃ k, l k z y) s K → ∃ (J : Nat → S → Prop) (X : Ret → S → Prop) (k : Nat), J k s ∧ (∀ s1, ¬ J 0 s1) ∧ (∀ q s1, X q s1 → wkK s.hp.length K q s1) ∧ ∀ k s1, J (k + 1) s1 → ∃ s2, wk s.hp.length s1 s2 ∧ acode c fid cv ok lp rd a (iterK X (J k)) s2 := by
  intro K s h
  unfold loopK at h
  split at h
  · rename_i hN
    rw [Nat.eq_of_beq_eq_true hN]
    obtain ⟨w, z, q, cc, h1, h2, h3, h4, y, ⟨k, hl⟩, hK⟩ := headK_iff.mp h
    refine ⟨fun k s1 => nextK lk (lk.prm z q) (fun z' => l k z' y) s1, toX lk.N (lk.prm z q) lk.xs (· = y), k, ?_, ?_, ?_, ?_⟩
    · exact headK_iff.mpr ⟨w, z, q, cc, h1, h2, h3, h4, stay_self hl⟩
    · intro s1 hs
      obtain ⟨w, z', q', c', _, _, _, _, hz⟩ := headK_iff.mp hs
      exact h0 _ _ (stay_of hz).2
    · intro q1 s1 hs
      obtain ⟨y', rfl, hy⟩ := toX_of (K := K) hs
      exact hy hK
    · intro k s1 hs
      obtain ⟨w, z', q', c', k1, k2, k3, k4, hz⟩ := headK_iff.mp hs
      obtain ⟨e, hz⟩ := stay_of hz
      obtain ⟨e1, k5⟩ := k1.wk
      refine ⟨_, k5, ?_⟩
      have := round k z' q' c' y hz
      rw [e, Zs.read_of k2, Zs.read_of k3, Zs.read_of k4, ← e1] at this
      exact this
  · exact h.elim

/- texts: as they are read (R), and as they are reckoned (T) -/

/-- what stands for the words that a text leaves open -/
structure Ip where
  rq : Bool → Prop → Prop
  r2 : (d' d : Bool) → (d' = true → d = true) → Prop → Prop
  tr : (d : Bool) → d = true → Prop → Prop
  te : List V → List KC → Prop → Prop
  tf : (l l' : List V) → l = l' → List KC → Prop → Prop
  tg : (d : Bool) → (l l' : List V) → (d = true → l = l') → List KC → Prop → Prop
  tk : List KC → Prop → Prop
  tq : List V → Prop → Prop
  lo : Option Nat → Code → Prop → Prop
  cp : (n : Nat) → ((c : Nat) → Nat.ble n c = true → Prop) → Prop
  cq : (l : List ZT) → (Zs.den l → Prop) → Prop
  nl : Nat → Prop → Prop
  an : Nat → Prop → Prop
  a2 : Prop → Prop → Prop
  n2 : Nat → Prop → Prop → Prop

def ZT.some : (a : ZT) → a.den
  | .int _ => (0 : Int)
  | .bool => false
  | .str => (⟨#[]⟩ : ByteArray)
  | .sl _ => []
  | .nat => (0 : Nat)
  | .dat t => t.dflt

def Zs.some : (l : List ZT) → Zs.den l
  | [] => ()
  | [a] => a.some
  | a :: b :: l => (a.some, Zs.some (b :: l))

theorem ble_me (n : Nat) : Nat.ble n n = true := Nat.ble_eq.mpr (Nat.le_refl n)

noncomputable def ipT : Ip where
  rq d X := rqm d X
  r2 _ d _ X := rqm d X
  tr d _ X := rqm d X
  te l k X := (l = l ∧ k = k) ∧ X
  tf l l' _ k X := (l = l' ∧ k = k) ∧ X
  tg _ l l' _ k X := (l = l' ∧ k = k) ∧ X
  tk k X := k = k ∧ X
  tq l X := l = l ∧ X
  lo r b X := r = r ∧ b = b ∧ X
  cp n f := ∀ c (h : Nat.ble n c = true), f c h
  cq l f := ∀ c : Zs.den l, f c
  nl n X := (Nat.beq n 0 = true → X) ∧ X
  an n X := Go.B.an n X
  a2 X Y := X ∧ Y
  n2 n X Y := (Nat.beq n 0 = true → X) ∧ Y

/-- word by word -/
noncomputable def ipE : Ip := { ipT with rq := fun d X => req d X, r2 := fun _ d _ X => req d X, tr := fun d _ X => req d X }

theorem rqm_of {b : Bool} {X : Prop} (h : b = true) (x : X) : rqm b X := by subst h; exact x
section
variable {X Y X' Y' : Prop}

theorem m_br {b : Bool} (h : X → X') (k : Y → Y') : br b X Y → br b X' Y' := by cases b <;> assumption

theorem m_and (h : Y → Y') : X ∧ Y → X ∧ Y' := fun x => ⟨x.1, h x.2⟩

theorem m_and2 (h : X → X') (k : Y → Y') : X ∧ Y → X' ∧ Y' := fun x => ⟨h x.1, k x.2⟩

theorem m_ex {α : Type} {P Q : α → Prop} (h : ∀ y, P y → Q y) : (∃ y, P y) → ∃ y, Q y := fun ⟨y, x⟩ => ⟨y, h y x⟩

theorem m_all {α : Sort _} {P Q : α → Prop} (h : ∀ y, P y → Q y) : (∀ y, P y) → ∀ y, Q y := fun x y => h y (x y)

theorem m_sume {α β : Type} {f f' : α → Prop} {g g' : β → Prop} {y : α ⊕ β} (h : ∀ a, f a → f' a) (k : ∀ b, g b → g' b) : sume f g y → sume f' g' y := by
  cases y
  · exact h _
  · exact k _

theorem m_rq {d : Bool} (h : X → X') : req d X → ipT.rq d X' := fun x => rqm_of x.h (h x.x)

theorem m_r2 {d e : Bool} {q : d = true → e = true} (h : X → X') : req d X → ipT.r2 d e q X' := fun x => rqm_of (q x.h) (h x.x)

theorem m_tr {e : Bool} {q : e = true} (h : X → X') : X → ipT.tr e q X' := fun x => rqm_of q (h x)

theorem e_rq {d : Bool} (h : X → X') : req d X → ipE.rq d X' := fun x => ⟨x.h, h x.x⟩

theorem e_r2 {d e : Bool} {q : d = true → e = true} (h : X → X') : req d X → ipE.r2 d e q X' := fun x => ⟨q x.h, h x.x⟩

theorem e_tr {e : Bool} {q : e = true} (h : X → X') : X → ipE.tr e q X' := fun x => ⟨q, h x⟩

theorem m_te {m : List V} {j : List KC} (h : X → X') : X → ipT.te m j X' := fun x => ⟨⟨rfl, rfl⟩, h x⟩

theorem m_tf {m m' : List V} {q : m = m'} {j : List KC} (h : X → X') : X → ipT.tf m m' q j X' := fun x => ⟨⟨q, rfl⟩, h x⟩

theorem m_tg {d : Bool} {m m' : List V} {q : d = true → m = m'} {j : List KC} (h : X → X') : req d X → ipT.tg d m m' q j X' := fun x => ⟨⟨q x.h, rfl⟩, h x.x⟩

theorem m_tk {j : List KC} (h : X → X') : X → ipT.tk j X' := fun x => ⟨rfl, h x⟩

theorem m_tq {m : List V} (h : X → X') : X → ipT.tq m X' := fun x => ⟨rfl, h x⟩

theorem m_lo {s : Option Nat} {c : Code} (h : X → X') : X → ipT.lo s c X' := fun x => ⟨rfl, rfl, h x⟩

theorem m_nl {m : Nat} (h : X → X') : X → ipT.nl m X' := fun x => ⟨fun _ => h x, h x⟩

theorem m_an {n : Nat} (h : X → X') : X → ipT.an n X' := fun x => an_intro n (h x)

theorem m_a2 (h : X → X') (k : X → Y') : X → ipT.a2 X' Y' := fun x => ⟨h x, k x⟩

theorem m_n2 {m : Nat} (h : X → X') (k : X → Y') : X → ipT.n2 m X' Y' := fun x => ⟨fun _ => h x, k x⟩

theorem m_cp {n : Nat} {f : (c : Nat) → Nat.ble n c = true → Prop} (h : ∀ c e, X → f c e) : X → ipT.cp n f := fun x c e => h c e x

theorem m_cq {l : List ZT} {f : Zs.den l → Prop} (h : ∀ c, X → f c) : X → ipT.cq l f := fun x c => h c x

theorem m_false : False → X := False.elim

/-- from the relation to what is reckoned, word by word -/
inductive MI : Prop → Prop → Prop
  | br {b : Bool} {X Y X' Y' : Prop} : MI X X' → MI Y Y' → MI (br b X Y) (br b X' Y')
  | ex {α : Type} {P Q : α → Prop} : (∀ y, MI (P y) (Q y)) → MI (∃ y, P y) (∃ y, Q y)
  | and {X Y Y' : Prop} : MI Y Y' → MI (X ∧ Y) (X ∧ Y')
  | te {X X' : Prop} {m : List V} {j : List KC} : MI X X' → MI X (ipT.te m j X')
  | tf {X X' : Prop} {m m' : List V} {q : m = m'} {j : List KC} : MI X X' → MI X (ipT.tf m m' q j X')
  | tg {X X' : Prop} {d : Bool} {m m' : List V} {q : d = true → m = m'} {j : List KC} : MI X X' → MI (req d X) (ipT.tg d m m' q j X')
  | tr {X X' : Prop} {e : Bool} {q : e = true} : MI X X' → MI X (ipT.tr e q X')
  | r2 {X X' : Prop} {d e : Bool} {q : d = true → e = true} : MI X X' → MI (req d X) (ipT.r2 d e q X')
  | rq {X X' : Prop} {d : Bool} : MI X X' → MI (req d X) (ipT.rq d X')
  | cp {X : Prop} {n : Nat} {f : (c : Nat) → Nat.ble n c = true → Prop} : (∀ c e, MI X (f c e)) → MI X (ipT.cp n f)
  | tq {X X' : Prop} {m : List V} : MI X X' → MI X (ipT.tq m X')
  | lo {X X' : Prop} {s : Option Nat} {c : Code} : MI X X' → MI X (ipT.lo s c X')
  | sume {α β : Type} {f f' : α → Prop} {g g' : β → Prop} {y : α ⊕ β} : (∀ a, MI (f a) (f' a)) → (∀ b, MI (g b) (g' b)) → MI (sume f g y) (sume f' g' y)
  | cq {X : Prop} {l : List ZT} {f : Zs.den l → Prop} : (∀ c, MI X (f c)) → MI X (ipT.cq l f)
  | nl {X X' : Prop} {m : Nat} : MI X X' → MI X (ipT.nl m X')
  | an {X X' : Prop} {n : Nat} : MI X X' → MI X (ipT.an n X')
  | a2 {X X' Y' : Prop} : MI X X' → MI X Y' → MI X (ipT.a2 X' Y')
  | n2 {X X' Y' : Prop} {m : Nat} : MI X X' → MI X Y' → MI X (ipT.n2 m X' Y')
  | tk {X X' : Prop} {j : List KC} : MI X X' → MI X (ipT.tk j X')
  | id {X : Prop} : MI X X
  | all {α : Type} {P Q : α → Prop} : (∀ y, MI (P y) (Q y)) → MI (∀ y, P y) (∀ y, Q y)
  | imp {α : Prop} {P Q : α → Prop} : (∀ y, MI (P y) (Q y)) → MI (∀ y, P y) (∀ y, Q y)
  | and2 {X Y X' Y' : Prop} : MI X X' → MI Y Y' → MI (X ∧ Y) (X' ∧ Y')

theorem MI.run {A B : Prop} (h : MI A B) : A → B := by
  induction h with
  | br _ _ h k => exact m_br h k
  | ex _ h => exact m_ex h
  | and _ h => exact m_and h
  | te _ h => exact m_te h
  | tf _ h => exact m_tf h
  | tg _ h => exact m_tg h
  | tr _ h => exact m_tr h
  | r2 _ h => exact m_r2 h
  | rq _ h => exact m_rq h
  | cp _ h => exact m_cp h
  | tq _ h => exact m_tq h
  | lo _ h => exact m_lo h
  | sume _ _ h k => exact m_sume h k
  | cq _ h => exact m_cq h
  | nl _ h => exact m_nl h
  | an _ h => exact m_an h
  | a2 _ _ h k => exact m_a2 h k
  | n2 _ _ h k => exact m_n2 h k
  | tk _ h => exact m_tk h
  | id => exact fun x => x
  | all _ h => exact m_all h
  | imp _ h => exact m_all h
  | and2 _ _ h k => exact m_and2 h k

/-- a round -/
def rnd (c : Cx) (ok : FuncId → Nat → Nat → Bool) (lp : Nat → FuncId → Nat → Nat → Lp) (n : Nat) (f : FuncId) (rd : Option Nat) (a : Code) (lk : LK) (l : Zs.den lk.zT → Ys.den lk.xs → Prop) (z : Zs.den lk.zT) (q : Zs.den lk.qT) (cc : Zs.den lk.cT) (y : Ys.den lk.xs) : Prop :=
  acode c f (acall c ok lp n) (ok f) (lp n f) rd a (iterK (toX lk.N (lk.prm z q) lk.xs (· = y)) (nextK lk (lk.prm z q) fun z' => l z' y)) (lk.sk.inst ⟨[], Zs.vals lk.zT z, Zs.vals lk.qT q, Zs.vals lk.cT cc⟩)

theorem owed_rnd {c : Cx} {ok : FuncId → Nat → Nat → Bool} {lp : Nat → FuncId → Nat → Nat → Lp} {n : Nat} {f : FuncId} {rd : Option Nat} {a : Code} {lk : LK} {l : Nat → Zs.den lk.zT → Ys.den lk.xs → Prop} (h0 : ∀ z y, ¬ l 0 z y)
    (h : ∀ k z q cc y, l (k + 1) z y → rnd c ok lp n f rd a lk (l k) z q cc y) : Owed c ok f lp n (.auto rd a (loopK lk fun z y => ∃ k, l k z y)) := loop_of h0 h
end
end Go.B
