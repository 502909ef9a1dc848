/-
  Sx, part A: words on which the symbolic walk rests: floats up to the choice of a not-a-number, expressions and their values,
  symbolic values, and when a symbolic value stands for a value of the model. Nothing here names a program.
-/
import Derived.WalkKit
import Derived.WalkLawsBesides
namespace Go.Sx

/-- A float up to the choice of a not-a-number: 'none' is any of them. -/
abbrev Fl := Option Nat

def isNanW (k : FloatKind) (b : Nat) : Bool := (k.format.read b).isNaN
/-- The class of a word. -/
def cn (k : FloatKind) (b : Nat) : Fl := if isNanW k b then none else some b

namespace Fl
def lift2 (f : Nat → Nat → Option Nat) (x y : Fl) : Fl :=
  match x, y with
  | some a, some b => f a b
  | _, _ => none
def add (k : FloatKind) : Fl → Fl → Fl := lift2 k.format.add
def sub (k : FloatKind) : Fl → Fl → Fl := lift2 k.format.sub
def mul (k : FloatKind) : Fl → Fl → Fl := lift2 k.format.mul
def div (k : FloatKind) : Fl → Fl → Fl := lift2 k.format.div
def ord (k : FloatKind) (x y : Fl) : Option Ordering :=
  match x, y with
  | some a, some b => k.format.order a b
  | _, _ => none
def eq (k : FloatKind) (x y : Fl) : Bool := ord k x y == some .eq
def lt (k : FloatKind) (x y : Fl) : Bool := ord k x y == some .lt
def le (k : FloatKind) (x y : Fl) : Bool := ord k x y == some .lt || ord k x y == some .eq
def gt (k : FloatKind) (x y : Fl) : Bool := ord k x y == some .gt
def ge (k : FloatKind) (x y : Fl) : Bool := ord k x y == some .gt || ord k x y == some .eq
def neg (k : FloatKind) : Fl → Fl
  | some a => some (Op.negFloat k a)
  | none => none
/-- The sign cleared. -/
def abs (k : FloatKind) : Fl → Fl
  | some a => some (a % k.format.signWeight)
  | none => none
/-- Cut toward zero. -/
def toInt (k : FloatKind) : Fl → Int
  | some a => ((k.decode a).toInt .zero).getD 0
  | none => 0
def sqrt : Fl → Fl
  | some a => FloatKind.f64.format.sqrt a
  | none => none
/-- From one kind to the other (where it fits). -/
def conv (s d : FloatKind) : Fl → Fl
  | some a => if s = d then some a else some (d.encode (s.decode a))
  | none => none
/-- Whether the conversion is told by the language: no overflow of a finite number. -/
def convOk (s d : FloatKind) : Fl → Bool
  | some a => s = d || (s.decode a).isInfinity || !(d.decode (d.encode (s.decode a))).isInfinity
  | none => true
def bits : Fl → Int
  | some a => a
  | none => 0
def ofBits (k : FloatKind) (n : Int) : Fl := cn k n.toNat
def integral (way : Ieee.Toward) : Fl → Fl
  | some a => some (FloatKind.f64.encode ((FloatKind.f64.decode a).integral way))
  | none => none
end Fl

/-- Values of expressions. -/
inductive D where
  | b (x : Bool)
  | i (x : Int)
  | f (x : Fl)
  | s (x : ByteArray)
  | p (x y : D)
  | l (xs : List D)

namespace D
def toB : D → Bool | .b x => x | _ => false
def toI : D → Int | .i x => x | _ => 0
def toF : D → Fl | .f x => x | _ => none
def toS : D → ByteArray | .s x => x | _ => .empty
def fst : D → D | .p x _ => x | d => d
def snd : D → D | .p _ y => y | d => d
def toL : D → List D | .l xs => xs | _ => []
/-- An element of a row. -/
def at_ (d : D) (n : Nat) : D := d.toL.getD n (.b false)
theorem toB_b (x : Bool) : (D.b x).toB = x := rfl
theorem toI_i (x : Int) : (D.i x).toI = x := rfl
theorem toF_f (x : Fl) : (D.f x).toF = x := rfl
theorem toS_s (x : ByteArray) : (D.s x).toS = x := rfl
theorem toL_l (x : List D) : (D.l x).toL = x := rfl
end D

inductive O1 where
  | not | fneg (k : FloatKind) | sqrt | conv (s d : FloatKind) | convOk (s d : FloatKind)
  | i2f (k : FloatKind) | bits | ofBits (k : FloatKind) | nan | wrap (k : IntKind) | slen | integral (way : Ieee.Toward)
  | fst | snd | fabs (k : FloatKind) | f2i (k : FloatKind) | byte | llen
  deriving DecidableEq

inductive O2 where
  | fadd (k : FloatKind) | fsub (k : FloatKind) | fmul (k : FloatKind) | fdiv (k : FloatKind)
  | feq (k : FloatKind) | flt (k : FloatKind) | fle (k : FloatKind) | fsame
  | iadd | isub | imul | itdiv | itmod | ishl | ishr | iand (k : IntKind) | ior (k : IntKind) | ixor (k : IntKind) | iandn (k : IntKind)
  | ieq | ilt | ile | beq | band | bor
  | sidx | scat | seq | slt | sel | pair | lpush | lrep | lapp
  deriving DecidableEq

inductive O3 where
  | ite | ssub | upd | lsub
  deriving DecidableEq

/-! ### Numbers of operations: what is compared is a number -/

def O1.code : O1 → Nat
  | .not => 0
  | .sqrt => 1
  | .bits => 2
  | .nan => 3
  | .slen => 4
  | .fst => 5
  | .snd => 6
  | .fneg .f32 => 7
  | .fneg .f64 => 8
  | .i2f .f32 => 9
  | .i2f .f64 => 10
  | .ofBits .f32 => 11
  | .ofBits .f64 => 12
  | .fabs .f32 => 13
  | .fabs .f64 => 14
  | .f2i .f32 => 15
  | .f2i .f64 => 16
  | .conv .f32 .f32 => 17
  | .conv .f32 .f64 => 18
  | .conv .f64 .f32 => 19
  | .conv .f64 .f64 => 20
  | .convOk .f32 .f32 => 21
  | .convOk .f32 .f64 => 22
  | .convOk .f64 .f32 => 23
  | .convOk .f64 .f64 => 24
  | .integral .even => 25
  | .integral .down => 26
  | .integral .up => 27
  | .integral .zero => 28
  | .wrap .i8 => 29
  | .wrap .i16 => 30
  | .wrap .i32 => 31
  | .wrap .i64 => 32
  | .wrap .u8 => 33
  | .wrap .u16 => 34
  | .wrap .u32 => 35
  | .wrap .u64 => 36
  | .byte => 37
  | .llen => 38
def O1.ofCode : Nat → O1
  | 0 => .not
  | 1 => .sqrt
  | 2 => .bits
  | 3 => .nan
  | 4 => .slen
  | 5 => .fst
  | 6 => .snd
  | 7 => .fneg .f32
  | 8 => .fneg .f64
  | 9 => .i2f .f32
  | 10 => .i2f .f64
  | 11 => .ofBits .f32
  | 12 => .ofBits .f64
  | 13 => .fabs .f32
  | 14 => .fabs .f64
  | 15 => .f2i .f32
  | 16 => .f2i .f64
  | 17 => .conv .f32 .f32
  | 18 => .conv .f32 .f64
  | 19 => .conv .f64 .f32
  | 20 => .conv .f64 .f64
  | 21 => .convOk .f32 .f32
  | 22 => .convOk .f32 .f64
  | 23 => .convOk .f64 .f32
  | 24 => .convOk .f64 .f64
  | 25 => .integral .even
  | 26 => .integral .down
  | 27 => .integral .up
  | 28 => .integral .zero
  | 29 => .wrap .i8
  | 30 => .wrap .i16
  | 31 => .wrap .i32
  | 32 => .wrap .i64
  | 33 => .wrap .u8
  | 34 => .wrap .u16
  | 35 => .wrap .u32
  | 36 => .wrap .u64
  | 37 => .byte
  | _ => .llen
theorem O1.ofCode_code (o : O1) : O1.ofCode o.code = o := by
  cases o <;> first | rfl | (rename_i k; cases k <;> rfl) | (rename_i s d; cases s <;> cases d <;> rfl)
theorem O1.code_inj {a b : O1} (h : a.code = b.code) : a = b := by rw [← O1.ofCode_code a, h, O1.ofCode_code]

def O2.code : O2 → Nat
  | .fsame => 0
  | .iadd => 1
  | .isub => 2
  | .imul => 3
  | .itdiv => 4
  | .itmod => 5
  | .ishl => 6
  | .ishr => 7
  | .ieq => 8
  | .ilt => 9
  | .ile => 10
  | .beq => 11
  | .band => 12
  | .bor => 13
  | .sidx => 14
  | .scat => 15
  | .seq => 16
  | .slt => 17
  | .sel => 18
  | .pair => 19
  | .fadd .f32 => 20
  | .fadd .f64 => 21
  | .fsub .f32 => 22
  | .fsub .f64 => 23
  | .fmul .f32 => 24
  | .fmul .f64 => 25
  | .fdiv .f32 => 26
  | .fdiv .f64 => 27
  | .feq .f32 => 28
  | .feq .f64 => 29
  | .flt .f32 => 30
  | .flt .f64 => 31
  | .fle .f32 => 32
  | .fle .f64 => 33
  | .iand .i8 => 34
  | .iand .i16 => 35
  | .iand .i32 => 36
  | .iand .i64 => 37
  | .iand .u8 => 38
  | .iand .u16 => 39
  | .iand .u32 => 40
  | .iand .u64 => 41
  | .ior .i8 => 42
  | .ior .i16 => 43
  | .ior .i32 => 44
  | .ior .i64 => 45
  | .ior .u8 => 46
  | .ior .u16 => 47
  | .ior .u32 => 48
  | .ior .u64 => 49
  | .ixor .i8 => 50
  | .ixor .i16 => 51
  | .ixor .i32 => 52
  | .ixor .i64 => 53
  | .ixor .u8 => 54
  | .ixor .u16 => 55
  | .ixor .u32 => 56
  | .ixor .u64 => 57
  | .iandn .i8 => 58
  | .iandn .i16 => 59
  | .iandn .i32 => 60
  | .iandn .i64 => 61
  | .iandn .u8 => 62
  | .iandn .u16 => 63
  | .iandn .u32 => 64
  | .iandn .u64 => 65
  | .lpush => 66
  | .lrep => 67
  | .lapp => 68
def O2.ofCode : Nat → O2
  | 0 => .fsame
  | 1 => .iadd
  | 2 => .isub
  | 3 => .imul
  | 4 => .itdiv
  | 5 => .itmod
  | 6 => .ishl
  | 7 => .ishr
  | 8 => .ieq
  | 9 => .ilt
  | 10 => .ile
  | 11 => .beq
  | 12 => .band
  | 13 => .bor
  | 14 => .sidx
  | 15 => .scat
  | 16 => .seq
  | 17 => .slt
  | 18 => .sel
  | 19 => .pair
  | 20 => .fadd .f32
  | 21 => .fadd .f64
  | 22 => .fsub .f32
  | 23 => .fsub .f64
  | 24 => .fmul .f32
  | 25 => .fmul .f64
  | 26 => .fdiv .f32
  | 27 => .fdiv .f64
  | 28 => .feq .f32
  | 29 => .feq .f64
  | 30 => .flt .f32
  | 31 => .flt .f64
  | 32 => .fle .f32
  | 33 => .fle .f64
  | 34 => .iand .i8
  | 35 => .iand .i16
  | 36 => .iand .i32
  | 37 => .iand .i64
  | 38 => .iand .u8
  | 39 => .iand .u16
  | 40 => .iand .u32
  | 41 => .iand .u64
  | 42 => .ior .i8
  | 43 => .ior .i16
  | 44 => .ior .i32
  | 45 => .ior .i64
  | 46 => .ior .u8
  | 47 => .ior .u16
  | 48 => .ior .u32
  | 49 => .ior .u64
  | 50 => .ixor .i8
  | 51 => .ixor .i16
  | 52 => .ixor .i32
  | 53 => .ixor .i64
  | 54 => .ixor .u8
  | 55 => .ixor .u16
  | 56 => .ixor .u32
  | 57 => .ixor .u64
  | 58 => .iandn .i8
  | 59 => .iandn .i16
  | 60 => .iandn .i32
  | 61 => .iandn .i64
  | 62 => .iandn .u8
  | 63 => .iandn .u16
  | 64 => .iandn .u32
  | 65 => .iandn .u64
  | 66 => .lpush
  | 67 => .lrep
  | _ => .lapp
theorem O2.ofCode_code (o : O2) : O2.ofCode o.code = o := by
  cases o <;> first | rfl | (rename_i k; cases k <;> rfl) | (rename_i s d; cases s <;> cases d <;> rfl)
theorem O2.code_inj {a b : O2} (h : a.code = b.code) : a = b := by rw [← O2.ofCode_code a, h, O2.ofCode_code]

def O3.code : O3 → Nat
  | .ite => 0
  | .ssub => 1
  | .upd => 2
  | .lsub => 3
def O3.ofCode : Nat → O3
  | 0 => .ite
  | 1 => .ssub
  | 2 => .upd
  | _ => .lsub
theorem O3.ofCode_code (o : O3) : O3.ofCode o.code = o := by
  cases o <;> first | rfl | (rename_i k; cases k <;> rfl) | (rename_i s d; cases s <;> cases d <;> rfl)
theorem O3.code_inj {a b : O3} (h : a.code = b.code) : a = b := by rw [← O3.ofCode_code a, h, O3.ofCode_code]

/-- Expressions: closed words over variables. 'app': a function that a table gives. -/
inductive E where
  | v (n : Nat)
  | b (x : Bool)
  | i (x : Int)
  | f (x : Fl)
  | s (x : List UInt8)
  | o1 (o : O1) (a : E)
  | o2 (o : O2) (a b : E)
  | o3 (o : O3) (a b c : E)
  | app (n : Nat) (a : E)

def O1.ev : O1 → D → D
  | .not, d => .b (!d.toB)
  | .fneg k, d => .f (Fl.neg k d.toF)
  | .sqrt, d => .f (Fl.sqrt d.toF)
  | .conv s k, d => .f (Fl.conv s k d.toF)
  | .convOk s k, d => .b (Fl.convOk s k d.toF)
  | .i2f k, d => .f (some (k.nearest d.toI))
  | .bits, d => .i (Fl.bits d.toF)
  | .ofBits k, d => .f (Fl.ofBits k d.toI)
  | .nan, d => .b d.toF.isNone
  | .wrap k, d => .i (k.wrap d.toI)
  | .slen, d => .i d.toS.size
  | .integral w, d => .f (Fl.integral w d.toF)
  | .fst, d => d.fst
  | .snd, d => d.snd
  | .fabs k, d => .f (Fl.abs k d.toF)
  | .f2i k, d => .i (Fl.toInt k d.toF)
  | .byte, d => .s ⟨#[UInt8.ofNat d.toI.toNat]⟩
  | .llen, d => .i d.toL.length

def O2.ev : O2 → D → D → D
  | .fadd k, x, y => .f (Fl.add k x.toF y.toF)
  | .fsub k, x, y => .f (Fl.sub k x.toF y.toF)
  | .fmul k, x, y => .f (Fl.mul k x.toF y.toF)
  | .fdiv k, x, y => .f (Fl.div k x.toF y.toF)
  | .feq k, x, y => .b (Fl.eq k x.toF y.toF)
  | .flt k, x, y => .b (Fl.lt k x.toF y.toF)
  | .fle k, x, y => .b (Fl.le k x.toF y.toF)
  | .fsame, x, y => .b (x.toF == y.toF)
  | .iadd, x, y => .i (x.toI + y.toI)
  | .isub, x, y => .i (x.toI - y.toI)
  | .imul, x, y => .i (x.toI * y.toI)
  | .itdiv, x, y => .i (x.toI.tdiv y.toI)
  | .itmod, x, y => .i (x.toI.tmod y.toI)
  | .ishl, x, y => .i (x.toI * 2 ^ y.toI.toNat)
  | .ishr, x, y => .i (x.toI.fdiv (2 ^ y.toI.toNat))
  | .iand k, x, y => .i (k.wrap (BitVec.ofInt k.bits x.toI &&& BitVec.ofInt k.bits y.toI).toNat)
  | .ior k, x, y => .i (k.wrap (BitVec.ofInt k.bits x.toI ||| BitVec.ofInt k.bits y.toI).toNat)
  | .ixor k, x, y => .i (k.wrap (BitVec.ofInt k.bits x.toI ^^^ BitVec.ofInt k.bits y.toI).toNat)
  | .iandn k, x, y => .i (k.wrap (BitVec.ofInt k.bits x.toI &&& ~~~ BitVec.ofInt k.bits y.toI).toNat)
  | .ieq, x, y => .b (x.toI == y.toI)
  | .ilt, x, y => .b (decide (x.toI < y.toI))
  | .ile, x, y => .b (decide (x.toI ≤ y.toI))
  | .beq, x, y => .b (x.toB == y.toB)
  | .band, x, y => .b (x.toB && y.toB)
  | .bor, x, y => .b (x.toB || y.toB)
  | .sidx, x, y => .i ((x.toS.data[y.toI.toNat]?.getD 0).toNat)
  | .scat, x, y => .s (x.toS ++ y.toS)
  | .seq, x, y => .b (x.toS.toList == y.toS.toList)
  | .slt, x, y => .b (Op.bytesLess x.toS.toList y.toS.toList)
  | .sel, x, y => x.at_ y.toI.toNat
  | .pair, x, y => .p x y
  | .lpush, x, y => .l (x.toL ++ [y])
  | .lrep, n, x => .l (List.replicate n.toI.toNat x)
  | .lapp, x, y => .l (x.toL ++ y.toL)

def O3.ev : O3 → D → D → D → D
  | .ite, c, x, y => if c.toB then x else y
  | .ssub, x, l, h => .s (x.toS.extract l.toI.toNat h.toI.toNat)
  | .upd, x, j, y => .l (x.toL.set j.toI.toNat y)
  | .lsub, x, l, h => .l ((x.toL.drop l.toI.toNat).take (h.toI.toNat - l.toI.toNat))

namespace E
variable (U : Nat → D → D)

def ev (r : Nat → D) : E → D
  | .v n => r n
  | .b x => .b x
  | .i x => .i x
  | .f x => .f x
  | .s x => .s ⟨x.toArray⟩
  | .o1 o x => o.ev (ev r x)
  | .o2 o x y => o.ev (ev r x) (ev r y)
  | .o3 o x y z => o.ev (ev r x) (ev r y) (ev r z)
  | .app n x => U n (ev r x)

/-- Whether two expressions are the same to the letter. -/
def same : E → E → Bool
  | .v n, .v m => Nat.beq n m
  | .b x, .b y => x == y
  | .i x, .i y => x == y
  | .f x, .f y => (match x, y with
    | some n, some m => Nat.beq n m
    | none, none => true
    | _, _ => false)
  | .s x, .s y => x == y
  | .o1 o x, .o1 o' x' => bif Nat.beq o.code o'.code then same x x' else false
  | .o2 o x y, .o2 o' x' y' => bif Nat.beq o.code o'.code then bif same x x' then same y y' else false else false
  | .o3 o x y z, .o3 o' x' y' z' => bif Nat.beq o.code o'.code then bif same x x' then bif same y y' then same z z' else false else false else false
  | .app n x, .app m x' => bif Nat.beq n m then same x x' else false
  | _, _ => false

theorem same_eq : ∀ {x y : E}, same x y = true → x = y := by
  intro x
  induction x with
  | v n => intro y h; cases y <;> simp [same] at h; rw [h]
  | b n => intro y h; cases y <;> simp_all [same]
  | i n => intro y h; cases y <;> simp_all [same]
  | f n => intro y h; cases y with
    | f m => cases n <;> cases m <;> simp [same] at h <;> simp [h]
    | _ => simp [same] at h
  | s n => intro y h; cases y <;> simp_all [same]
  | o1 o x ih => intro y h; cases y <;> simp [same] at h; rw [O1.code_inj h.1, ih h.2]
  | o2 o x y iha ihb => intro y h; cases y <;> simp [same] at h; rw [O2.code_inj h.1, iha h.2.1, ihb h.2.2]
  | o3 o x y z iha ihb ihc => intro y h; cases y <;> simp [same] at h; rw [O3.code_inj h.1, iha h.2.1, ihb h.2.2.1, ihc h.2.2.2]
  | app n x ih => intro y h; cases y <;> simp [same] at h; rw [h.1, ih h.2]

/-- All variables are below a number. -/
def under (m : Nat) : E → Bool
  | .v n => decide (n < m)
  | .b _ | .i _ | .f _ | .s _ => true
  | .o1 _ x | .app _ x => under m x
  | .o2 _ x y => under m x && under m y
  | .o3 _ x y z => under m x && (under m y && under m z)

theorem ev_under {m : Nat} {r r' : Nat → D} (hr : ∀ n, n < m → r' n = r n) : ∀ {e : E}, under m e = true → e.ev U r' = e.ev U r := by
  intro e
  induction e with
  | v n => intro h; simp [under] at h; exact hr _ h
  | b n => intro _; rfl
  | i n => intro _; rfl
  | f n => intro _; rfl
  | s n => intro _; rfl
  | o1 o x ih => intro h; simp only [ev, ih h]
  | app n x ih => intro h; simp only [ev]; rw [ih h]
  | o2 o x y iha ihb => intro h; simp [under] at h; simp only [ev, iha h.1, ihb h.2]
  | o3 o x y z iha ihb ihc => intro h; simp [under] at h; simp only [ev, iha h.1, ihb h.2.1, ihc h.2.2]

/-- The value of a literal. -/
def lit? : E → Option D
  | .b x => some (.b x)
  | .i x => some (.i x)
  | .f x => some (.f x)
  | .s x => some (.s ⟨x.toArray⟩)
  | _ => none

theorem lit?_ev {e : E} {d : D} (h : e.lit? = some d) (r : Nat → D) : e.ev U r = d := by
  cases e <;> simp [lit?] at h <;> subst h <;> rfl

/-- A value as a literal, where it is a plain one. -/
def ofD? : D → Option E
  | .b x => some (.b x)
  | .i x => some (.i x)
  | .f x => some (.f x)
  | .s x => some (.s x.data.toList)
  | _ => none

theorem ofD?_ev {e : E} {d : D} (h : ofD? d = some e) (r : Nat → D) : e.ev U r = d := by
  cases d <;> simp [ofD?] at h <;> subst h <;> simp [ev]

/-- The elements of a row that is written out. -/
def listE : E → Option (List E)
  | .o2 .lrep (.i 0) _ => some []
  | .o2 .lpush x y => match listE x with
    | some l => some (l ++ [y])
    | none => none
  | _ => none

theorem listE_ev (r : Nat → D) : ∀ {e : E} {l : List E}, listE e = some l → e.ev U r = .l (l.map fun x => x.ev U r) := by
  intro e
  induction e with
  | o2 o x y ihx _ =>
    intro l h
    unfold listE at h
    split at h
    · rename_i h'; cases h'; cases h; simp [ev, O2.ev, D.toI]
    · rename_i h'; cases h'
      split at h
      · rename_i l' hl; cases h; simp only [ev, O2.ev, ihx hl, D.toL_l, List.map_append, List.map_cons, List.map_nil]
      · cases h
    · cases h
  | _ => intro l h; simp [listE] at h

/-- The bytes of a text that is written out byte by byte. -/
def flatE : E → Option (List E)
  | .s l => some (l.map fun b => .i b.toNat)
  | .o1 .byte e => some [e]
  | .o2 .scat x y => match flatE x, flatE y with
    | some l, some m => some (l ++ m)
    | _, _ => none
  | _ => none

/-- The length of such a text. -/
def lenE : E → Option Nat
  | .s l => some l.length
  | .o1 .byte _ => some 1
  | .o2 .scat x y => match lenE x, lenE y with
    | some l, some m => some (l + m)
    | _, _ => none
  | _ => none

def sameAll : List E → List E → Bool
  | [], [] => true
  | x :: l, y :: m => bif same x y then sameAll l m else false
  | _, _ => false

theorem sameAll_eq : ∀ {l m : List E}, sameAll l m = true → l = m := by
  intro l
  induction l with
  | nil => intro m h; cases m <;> simp_all [sameAll]
  | cons x l ih =>
    intro m h
    cases m with
    | nil => simp [sameAll] at h
    | cons y m =>
      unfold sameAll at h
      cases hs : same x y with
      | true => rw [hs] at h; rw [same_eq hs, ih h]
      | false => rw [hs] at h; cases h

def byteOf (r : Nat → D) (e : E) : UInt8 := UInt8.ofNat (e.ev U r).toI.toNat

theorem flatE_ev (r : Nat → D) : ∀ {e : E} {l : List E}, flatE e = some l → (e.ev U r).toS.data.toList = l.map (byteOf U r) := by
  intro e
  induction e with
  | s x =>
    intro l h
    simp only [flatE, Option.some.injEq] at h
    subst h
    simp only [ev, D.toS_s, List.map_map]
    rw [show (byteOf U r ∘ fun b : UInt8 => E.i (b.toNat : Int)) = id from ?_]
    · simp
    · funext b; simp [byteOf, ev, D.toI]
  | o1 o x _ =>
    intro l h
    cases o <;> simp [flatE] at h
    subst h
    simp [ev, O1.ev, D.toS, byteOf]
  | o2 o x y ihx ihy =>
    intro l h
    cases o <;> simp only [flatE] at h <;> first | cases h | skip
    split at h
    · rename_i a b ha hb
      cases h
      simp only [ev, O2.ev, D.toS_s, List.map_append, ← ihx ha, ← ihy hb]
      simp [ByteArray.data_append]
    · cases h
  | _ => intro l h; simp [flatE] at h

theorem lenE_ev (r : Nat → D) : ∀ {e : E} {n : Nat}, lenE e = some n → (e.ev U r).toS.size = n := by
  intro e
  induction e with
  | s x =>
    intro n h
    simp only [lenE, Option.some.injEq] at h
    subst h
    simp [ev, D.toS_s, ByteArray.size]
  | o1 o x _ =>
    intro n h
    cases o <;> simp [lenE] at h
    subst h
    simp [ev, O1.ev, D.toS, ByteArray.size]
  | o2 o x y ihx ihy =>
    intro n h
    cases o <;> simp only [lenE] at h <;> first | cases h | skip
    split at h
    · rename_i a b ha hb
      cases h
      simp only [ev, O2.ev, D.toS_s, ByteArray.size_append, ihx ha, ihy hb]
    · cases h
  | _ => intro n h; simp [lenE] at h

/-- Texts that are written out: what is to be said of their sameness. -/
def seqRule (x y : E) : E :=
  if same x y then .b true else
  match flatE x, flatE y with
  | some l, some m => if l.length = m.length then (if sameAll l m then .b true else .o2 .seq x y) else .b false
  | _, _ => .o2 .seq x y

theorem seqRule_ev (x y : E) (r : Nat → D) : (seqRule x y).ev U r = O2.seq.ev (x.ev U r) (y.ev U r) := by
  unfold seqRule
  split
  · rename_i h; rw [same_eq h]; simp [ev, O2.ev]
  · split
    · rename_i l m hl hm
      have h1 := flatE_ev U r hl
      have h2 := flatE_ev U r hm
      have key : O2.seq.ev (x.ev U r) (y.ev U r) = .b (l.map (byteOf U r) == m.map (byteOf U r)) := by
        simp only [O2.ev, Go.ByteArray.toList_eq, h1, h2]
      split
      · split
        · rename_i h; rw [key, sameAll_eq h]; simp [ev]
        · rfl
      · rename_i hne
        rw [key]
        have : (l.map (byteOf U r) == m.map (byteOf U r)) = false := by
          rw [beq_eq_false_iff_ne]
          intro h
          exact hne (by simpa using congrArg List.length h)
        rw [this]; rfl
    · rfl

theorem iand_range (k : IntKind) (x n : Int) (h0 : 0 ≤ n) (h1 : n < 128) : 0 ≤ k.wrap (BitVec.ofInt k.bits x &&& BitVec.ofInt k.bits n).toNat ∧ k.wrap (BitVec.ofInt k.bits x &&& BitVec.ofInt k.bits n).toNat ≤ n := by
  have hn : (BitVec.ofInt k.bits n).toNat ≤ n.toNat := by
    rw [BitVec.toNat_ofInt]
    have : n % ((2 ^ k.bits : Nat) : Int) ≤ n := by
      rw [Int.emod_def]
      have h2 : 0 ≤ n / ((2 ^ k.bits : Nat) : Int) := Int.ediv_nonneg h0 (Int.natCast_nonneg _)
      have h3 := Int.mul_nonneg (Int.natCast_nonneg (2 ^ k.bits)) h2
      omega
    omega
  have hle : (BitVec.ofInt k.bits x &&& BitVec.ofInt k.bits n).toNat ≤ n.toNat := by
    rw [BitVec.toNat_and]
    exact Nat.le_trans Nat.and_le_right hn
  generalize (BitVec.ofInt k.bits x &&& BitVec.ofInt k.bits n).toNat = m at hle
  have hm : (m : Int) < 128 := by omega
  have hw : k.wrap (m : Int) = m := by
    unfold IntKind.wrap
    cases k <;> simp [IntKind.bits, IntKind.signed] <;> omega
  rw [hw]
  omega

/-- How many elements a row has. -/
def llenE : E → E
  | .o2 .lrep (.o1 .llen x) _ => .o1 .llen x
  | .o3 .upd x _ _ => llenE x
  | x => match listE x with
    | some l => .i l.length
    | none => .o1 .llen x

theorem llenE_ev (x : E) (r : Nat → D) : (llenE x).ev U r = O1.llen.ev (x.ev U r) := by
  fun_induction llenE x with
  | case1 x _ => simp [ev, O1.ev, O2.ev, D.toI, D.toL]
  | case2 x _ _ ih => simp only [ev, O1.ev, O3.ev, D.toL_l, List.length_set] at ih ⊢; exact ih
  | case3 x _ _ l h => simp only [ev, O1.ev, listE_ev U r h, D.toL_l, List.length_map]
  | case4 x _ _ h => rfl

/-- An operation of one operand: reckoned at a literal. -/
def rule1 (o : O1) (x : E) : E :=
  match o, x with
  | .not, .o1 .not (.o2 .fsame p q) => .o2 .fsame p q
  | .not, .o1 .not (.o2 (.feq k) p q) => .o2 (.feq k) p q
  | .not, .o1 .not (.o2 (.flt k) p q) => .o2 (.flt k) p q
  | .not, .o1 .not (.o2 (.fle k) p q) => .o2 (.fle k) p q
  | .not, .o1 .not (.o2 .ieq p q) => .o2 .ieq p q
  | .not, .o1 .not (.o2 .ilt p q) => .o2 .ilt p q
  | .not, .o1 .not (.o2 .ile p q) => .o2 .ile p q
  | .not, .o1 .not (.o1 .nan p) => .o1 .nan p
  | .fst, .o2 .pair p _ => p
  | .snd, .o2 .pair _ q => q
  | .slen, x => match lenE x with
    | some n => .i n
    | none => .o1 .slen x
  | .llen, .o3 .upd x _ _ => llenE x
  | .llen, x => llenE x
  | o, x => .o1 o x

theorem rule1_ev (o : O1) (x : E) (r : Nat → D) : (rule1 o x).ev U r = o.ev (x.ev U r) := by
  unfold rule1
  split
  case h_11 =>
    split
    · rename_i n h; simp only [ev, O1.ev, lenE_ev U r h]
    · rfl
  case h_12 => rw [llenE_ev]; simp only [ev, O1.ev, O3.ev, D.toL_l, List.length_set]
  case h_13 => rw [llenE_ev]
  all_goals simp [ev, O1.ev, O2.ev, D.toB, D.fst, D.snd]

def mk1 (o : O1) (x : E) : E :=
  match x.lit? with
  | some d => (ofD? (o.ev d)).getD (.o1 o x)
  | none => rule1 o x

theorem mk1_ev (o : O1) (x : E) (r : Nat → D) : (mk1 o x).ev U r = o.ev (x.ev U r) := by
  unfold mk1
  split
  · rename_i d h
    rw [lit?_ev U h r]
    cases h' : ofD? (o.ev d) with
    | none => show (E.o1 o x).ev U r = _; simp only [ev, lit?_ev U h r]
    | some e => exact ofD?_ev U h' r
  · exact rule1_ev U o x r

/-- An element of a row that is written out. -/
def selRule (x y : E) : E :=
  match y with
  | .i (.ofNat n) => (match listE x with
    | some l => (match l[n]? with
      | some e => e
      | none => .o2 .sel x y)
    | none => .o2 .sel x y)
  | _ => .o2 .sel x y

theorem selRule_ev (x y : E) (r : Nat → D) : (selRule x y).ev U r = O2.sel.ev (x.ev U r) (y.ev U r) := by
  unfold selRule
  split
  · rename_i n
    split
    · rename_i l hl
      split
      · rename_i e he
        simp only [O2.ev, ev, D.toI_i, D.at_, listE_ev U r hl, D.toL_l]
        show _ = (l.map fun x => x.ev U r).getD n _
        rw [List.getD_eq_getElem?_getD, List.getElem?_map, he]; rfl
      · rfl
    · rfl
  · rfl

/-- An operation of two operands: two of the same. -/
def rule2 (o : O2) (x y : E) : E :=
  match o with
  | .fsame => if same x y then .b true else .o2 .fsame x y
  | .ieq => if same x y then .b true else .o2 .ieq x y
  | .beq => if same x y then .b true else .o2 .beq x y
  | .seq => seqRule x y
  | .sel => selRule x y
  | .ilt => (match x, y with
    | .o2 (.iand _) _ (.i n), .i m => if 0 ≤ n ∧ n < 128 ∧ n < m then .b true else .o2 .ilt x y
    | _, _ => .o2 .ilt x y)
  | .ile => (match x, y with
    | .i m, .o2 (.iand _) _ (.i n) => if 0 ≤ n ∧ n < 128 ∧ m ≤ 0 then .b true else .o2 .ile x y
    | _, _ => .o2 .ile x y)
  | o => .o2 o x y

theorem rule2_ev (o : O2) (x y : E) (r : Nat → D) : (rule2 o x y).ev U r = o.ev (x.ev U r) (y.ev U r) := by
  unfold rule2
  split
  · split
    · rename_i h; rw [same_eq h]; simp [ev, O2.ev]
    · rfl
  · split
    · rename_i h; rw [same_eq h]; simp [ev, O2.ev]
    · rfl
  · split
    · rename_i h; rw [same_eq h]; simp [ev, O2.ev]
    · rfl
  · exact seqRule_ev U x y r
  · exact selRule_ev U x y r
  · split
    · rename_i k z n m
      split
      · rename_i h
        have := iand_range k (z.ev U r).toI n h.1 h.2.1
        refine congrArg D.b (decide_eq_true ?_).symm
        exact Int.lt_of_le_of_lt this.2 h.2.2
      · rfl
    · rfl
  · split
    · rename_i m k z n
      split
      · rename_i h
        have := iand_range k (z.ev U r).toI n h.1 h.2.1
        refine congrArg D.b (decide_eq_true ?_).symm
        exact Int.le_trans h.2.2 this.1
      · rfl
    · rfl
  · rfl

/-- An operation of two operands: reckoned at literals. -/
def mk2 (o : O2) (x y : E) : E :=
  match x.lit?, y.lit? with
  | some d, some d' => (ofD? (o.ev d d')).getD (.o2 o x y)
  | _, _ => rule2 o x y

theorem mk2_ev (o : O2) (x y : E) (r : Nat → D) : (mk2 o x y).ev U r = o.ev (x.ev U r) (y.ev U r) := by
  unfold mk2
  split
  · rename_i d d' h h'
    rw [lit?_ev U h r, lit?_ev U h' r]
    cases h'' : ofD? (o.ev d d') with
    | none => show (E.o2 o x y).ev U r = _; simp only [ev, lit?_ev U h r, lit?_ev U h' r]
    | some e => exact ofD?_ev U h'' r
  · exact rule2_ev U o x y r

/-- A choice. -/
def mkIte (c x y : E) : E :=
  match c with
  | .b true => x
  | .b false => y
  | c => .o3 .ite c x y

theorem mkIte_ev (c x y : E) (r : Nat → D) : (mkIte c x y).ev U r = if (c.ev U r).toB then x.ev U r else y.ev U r := by
  unfold mkIte
  split <;> rfl

end E
end Go.Sx
