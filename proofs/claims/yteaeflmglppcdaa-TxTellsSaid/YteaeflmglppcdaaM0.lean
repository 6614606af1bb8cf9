/- What package tx computes, in plain Lean: the state of a store, and what each operation does to it. -/
import Derived.Test.YteaeflmglppcdaaB1
namespace Go.Proofs.Yteaeflmglppcdaa
namespace Tx

/-- An operation, and an answer. -/
structure Op where
  d : Int
  t : Int
  k : Int
  n : Int
  deriving DecidableEq
structure Ans where
  e : Int
  n : Int
  deriving DecidableEq

structure Txn where
  inst : Nat
  read : Nat → Bool
  begun : Bool
  over : Bool
  comm : Bool
  writes : Bool

structure Inst where
  words : Nat → Int
  wrote : Nat → Bool
  by_ : Int

structure St where
  insts : List Inst
  txs : Nat → Txn
  wr : List ((Int × Int) × Int)
  readers : List Int

def Txn.zero : Txn := { inst := 0, read := fun _ => false, begun := false, over := false, comm := false, writes := false }
def Inst.zero : Inst := { words := fun _ => 0, wrote := fun _ => false, by_ := -1 }
def St.zero : St := { insts := [Inst.zero], txs := fun _ => Txn.zero, wr := [], readers := [] }

def St.inst (st : St) (i : Nat) : Inst := st.insts.getD i Inst.zero
def St.setTx (st : St) (t : Nat) (x : Txn) : St := { st with txs := fun i => if i = t then x else st.txs i }

def Txn.live (x : Txn) : Bool := x.begun && !x.over
def Txn.setRead (x : Txn) (k : Nat) : Txn := { x with read := fun i => if i = k then true else x.read i }

def word (n : Int) : Bool := decide (-2147483648 ≤ n) && decide (n ≤ 2147483647)
def w32 (n : Int) : Int := IntKind.i32.wrap n

def last (st : St) : Nat := st.insts.length - 1

/-- Begin. -/
def begin_ (st : St) (t : Nat) : Ans × St :=
  if (st.txs t).begun then (⟨5, 0⟩, st) else (⟨0, last st⟩, st.setTx t { st.txs t with begun := true, inst := last st })

/-- What a transaction sees at a key; whether it reads it of its instant. -/
def see (st : St) (t k : Nat) : Int := (mget ((t : Int), (k : Int)) st.wr).getD ((st.inst (st.txs t).inst).words k)
def look (st : St) (t k : Nat) : St := if (mget ((t : Int), (k : Int)) st.wr).isSome then st else st.setTx t ((st.txs t).setRead k)

def put (st : St) (t k : Nat) (n : Int) : St := { st.setTx t { st.txs t with writes := true } with wr := mput ((t : Int), (k : Int)) n st.wr }

def behind (st : St) (k n : Nat) : Bool := (List.range st.insts.length).any fun i => decide (n < i) && (st.inst i).wrote k
def clash (st : St) (t : Nat) : Bool := (List.range 16).any fun k => (st.txs t).read k && behind st k (st.txs t).inst

def made (st : St) (t : Nat) : Inst :=
  { words := fun k => (mget ((t : Int), (k : Int)) st.wr).getD ((st.inst (last st)).words k), wrote := fun k => (mget ((t : Int), (k : Int)) st.wr).isSome, by_ := t }

def commit (st : St) (t : Nat) : Ans × St :=
  let s1 := st.setTx t { st.txs t with over := true }
  let s2 := st.setTx t { st.txs t with over := true, comm := true }
  if !(st.txs t).writes then (⟨0, 0⟩, { s2 with readers := st.readers ++ [(t : Int)] })
  else if clash st t then (⟨10, 0⟩, s1)
  else (⟨0, st.insts.length⟩, { s2 with insts := st.insts ++ [made st t] })

def abort (st : St) (t : Nat) : Ans × St := (⟨0, 0⟩, st.setTx t { st.txs t with over := true })

/-- Does an operation have all that it needs? -/
def keyed (d : Int) : Bool := d == 1 || d == 2 || d == 3
def wordy (d : Int) : Bool := d == 2 || d == 3
def within (n lo hi : Int) : Bool := decide (lo ≤ n) && decide (n ≤ hi)
def fits (o : Op) : Bool := within o.t 0 15 && (!keyed o.d || within o.k 0 15) && (!wordy o.d || word o.n)

def does (st : St) (o : Op) : Ans × St :=
  let t := o.t.toNat
  let k := o.k.toNat
  if o.d = 0 then begin_ st t
  else if !(st.txs t).live then (⟨6, 0⟩, st)
  else if o.d = 1 then (⟨0, see st t k⟩, look st t k)
  else if o.d = 2 then (⟨0, 0⟩, put st t k o.n)
  else if o.d = 3 then (⟨0, w32 (see st t k + o.n)⟩, put (look st t k) t k (w32 (see st t k + o.n)))
  else if o.d = 4 then commit st t
  else abort st t

/-- An operation is done. -/
def step (st : St) (o : Op) : Ans × St :=
  if !within o.d 0 5 then (⟨1, 0⟩, st) else if !fits o then (⟨2, 0⟩, st) else does st o

/-- All operations: the answers, and the state. -/
def run (st : St) : List Op → List Ans × St
  | [] => ([], st)
  | o :: r => ((step st o).1 :: (run (step st o).2 r).1, (run (step st o).2 r).2)

end Tx
end Go.Proofs.Yteaeflmglppcdaa
